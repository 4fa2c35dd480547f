/- Proved here: that each Go function does what its shallow function says -/
import Derived.Test.YtdalcpadcggklaaDoorSh
import Derived.Test.YtdalcpadcggklaaDoorTy
import Derived.Test.YtdalcpadcggklaaDoorK13
import Derived.Test.YtdalcpadcggklaaDoorKS
import Derived.Test.YtdalcpadcggklaaDoorW0
import Derived.Test.YtdalcpadcggklaaDoorW1
import Derived.Test.YtdalcpadcggklaaDoorW2
import Derived.Test.YtdalcpadcggklaaDoorW3
namespace Go.Proofs.YtdalcpadcggklaaDoor
open Go Go.RowKit
set_option linter.unusedVariables false
set_option linter.unusedSimpArgs false
set_option maxRecDepth 100000
set_option maxHeartbeats 40000000

open Go.IntKind (i64)
open Go.Value (int)
theorem c_impl_parts (F : Nat) (p0_g_Size : Int) (p0_g_Rows : List Int) (p1_set : Int) (p0_g_Rowsv : Value) {r : (List (Int))} (hF : S_impl_parts F p0_g_Size p0_g_Rows p1_set = some r) (w0 : World) (h0 : RdRow w0 p0_g_Rowsv (List.map (int i64) p0_g_Rows)) :
    Calls Tryd.prog 59 [(Value.agg #[(int i64 p0_g_Size), p0_g_Rowsv]), (int i64 p1_set)].toArray w0 (retPost fun v w' => Mem Nob w0 w' [(true, ow 3 v (List.map (int i64) r))]) := by
 have hM : Mem Nob w0 w0 [(false, rd p0_g_Rowsv (List.map (int i64) p0_g_Rows))] := (Mem.rcons (Mem.nil w0) h0 (by simp))
 refine enter2 Tryd.func59 rfl rfl rfl fun Q a hQr hQn hQp hS => ?_
 have hS : Sl 25 [(0, (Value.agg #[(int i64 p0_g_Size), p0_g_Rowsv])), (1, (int i64 p1_set))] a := hS
 unfold S_impl_parts at hF
 refine wp_seq_k fun K1 hK1 => ?_
 refine wp_region_lit ?_
 obtain ⟨b3, w, hr, hM⟩ := hM.boxE (ρ := a.eval) (dst := some 2) (ty := _) (pos := _) (af := _) (gd := _) (x := .tmp 0) (T := 26) [(int i64 p0_g_Size), p0_g_Rowsv] (hS.ev rfl) rfl
 refine st_val hS rfl rfl (by decide) hr fun a hS => ?_
 refine st_val hS rfl rfl (by decide) (rv_assign (hS.ev rfl)) fun a hS => ?_
 refine wpList_nil ?_
 refine hK1 _ _ ?_
 refine wp_seq_k fun K4 hK4 => ?_
 refine wp_region_lit ?_
 obtain ⟨v6, w, hr, hM⟩ := Mem.litE (f := (int i64)) (dst := some 7) (ty := _) (pos := _) (af := _) (gd := _) (ps := []) ([] : List (Int)) i64_one hM hS Tryd.underlying24 ty_el_3 rfl rfl rfl rfl
 refine st_val hS rfl rfl (by decide) hr fun a hS => ?_
 refine st_val hS rfl rfl (by decide) (rv_assign (hS.ev rfl)) fun a hS => ?_
 refine wpList_nil ?_
 refine hK4 _ _ ?_
 refine wp_seq_k fun K7 hK7 => ?_
 have hJ1 : ∀ (l34 : List Int) (v33 : Value) (a : Act) (w : World), Sl 25 [(5, v33)] a → Mem Nob w0 w [(true, ow 3 v33 (List.map (int i64) l34))] → S_impl_parts_j1 F l34 = some r → K7 a w := by
  intro l34 v33 a w hS hM hF
  unfold S_impl_parts_j1 at hF
  refine hK7 _ _ ?_
  refine wp_seq_k fun K35 hK35 => ?_
  refine wp_region_lit ?_
  refine st_val hS rfl rfl (by decide) (rv_move (hS.ev rfl)) fun a hS => ?_
  refine st_val hS rfl rfl (by decide) (rv_assign (hS.ev rfl)) fun a hS => ?_
  refine wpList_nil ?_
  refine hK35 _ _ ?_
  refine wp_ret ?_
  cases hF
  exact hQr _ _ (r_1 hS rfl rfl (hM.pick [0] (by decide) rfl))
 refine wp_block ?_
 obtain ⟨lb2, hl2, hF2⟩ := bind_some hF
 refine wp_loop_sh (fun s => S_impl_parts_l2 F p0_g_Size p0_g_Rows s.1 s.2) (fun s a w => ∃ (v37 : Value), Sl 25 [(1, (int i64 s.1)), (2, (fdp b3 0)), (5, v37)] a ∧ Mem Nob w0 w [(true, bx b3 26 [(int i64 p0_g_Size), p0_g_Rowsv]), (false, rd p0_g_Rowsv (List.map (int i64) p0_g_Rows)), (true, ow 3 v37 (List.map (int i64) s.2))]) hl2 ⟨v6, (hS.sub (sub_cons rfl (sub_cons rfl (sub_cons rfl sub_nil)))), (hM.pick [1, 2, 0] (by decide) rfl)⟩ ?_
 rintro K2 ⟨x36, l38⟩ a w res2 ⟨v37, hS, hM⟩ hF hN2 hX2
 have hF : S_impl_parts_l2 F p0_g_Size p0_g_Rows x36 l38 = some res2 := hF
 have hS : Sl 25 [(1, (int i64 x36)), (2, (fdp b3 0)), (5, v37)] a := hS
 have hM : Mem Nob w0 w [(true, bx b3 26 [(int i64 p0_g_Size), p0_g_Rowsv]), (false, rd p0_g_Rowsv (List.map (int i64) p0_g_Rows)), (true, ow 3 v37 (List.map (int i64) l38))] := hM
 unfold S_impl_parts_l2 at hF
 refine wp_seq_k fun K50 hK50 => ?_
 refine wp_seq_k fun K52 hK52 => ?_
 refine wp_region_lit ?_
 refine st_val hS rfl rfl (by decide) (rv_move (hS.ev rfl)) fun a hS => ?_
 refine st_val hS rfl rfl (by decide) (rv_neq (hS.ev rfl) (hS.ev rfl)) fun a hS => ?_
 refine wpList_nil ?_
 refine hK52 _ _ ?_
 rcases ite_some hF with ⟨hc, hF⟩ | ⟨hc, hF⟩
 ·refine cond_t hS rfl hc ?_
  refine wp_skip ?_
  refine hK50 _ _ ?_
  refine wp_block ?_
  refine wp_seq_k fun K53 hK53 => ?_
  refine wp_region_lit ?_
  refine st_val hS rfl rfl (by decide) (rv_load_agg (hS.ev rfl) ty_ag_26 (hM.get 0 rfl) ty_sz_26) fun a hS => ?_
  refine st_val hS rfl rfl (by decide) (rv_move (hS.ev rfl)) fun a hS => ?_
  refine st_val hS rfl rfl (by decide) (rv_move (hS.ev rfl)) fun a hS => ?_
  refine st_val hS rfl rfl (by decide) (rv_move (hS.ev rfl)) fun a hS => ?_
  refine st_val hS rfl rfl (by decide) (rv_neg (hS.ev rfl)) fun a hS => ?_
  refine st_val hS rfl rfl (by decide) (rv_and (hS.ev rfl) (hS.ev rfl)) fun a hS => ?_
  obtain ⟨r55, hr, hF⟩ := bind_some hF
  refine st_wp hS rfl (wp_call hS rfl rfl (by decide) fn_ok_91 rfl (c_impl_partOf F p0_g_Size p0_g_Rows x36 (bAnd x36 (i64.wrap (0 - x36))) p0_g_Rowsv hr _ (hM.get 1 rfl)) fun v w a hK hS => ?_)
  obtain ⟨rfl, hN⟩ := hK
  have hM := hM.fra hN.fr
  refine st_val hS rfl rfl (by decide) (rv_assign (hS.ev rfl)) fun a hS => ?_
  refine wpList_nil ?_
  refine hK53 _ _ ?_
  have hS : Sl 25 [(1, (int i64 x36)), (2, (fdp b3 0)), (5, v37), (6, (int i64 r55))] a := hS.sub (sub_cons rfl (sub_cons rfl (sub_cons rfl (sub_cons rfl sub_nil))))
  refine wp_seq_k fun K56 hK56 => ?_
  refine wp_region_lit ?_
  refine st_val hS rfl rfl (by decide) (rv_move (hS.ev rfl)) fun a hS => ?_
  refine st_val hS rfl rfl (by decide) (rv_move (hS.ev rfl)) fun a hS => ?_
  obtain ⟨v59, w, hr, hM⟩ := Mem.litE (f := (int i64)) (dst := some 19) (ty := _) (pos := _) (af := _) (gd := _) (ps := [(0, .tmp 18)]) ([r55] : List (Int)) i64_one hM hS Tryd.underlying24 ty_el_3 rfl rfl rfl rfl
  refine st_val hS rfl rfl (by decide) hr fun a hS => ?_
  obtain ⟨_, hx, hF⟩ := bind_some hF
  have hM := hM.pick [3, 0, 1, 2] (by decide) rfl
  obtain ⟨v60, w, hr, hM⟩ := Mem.appE (f := (int i64)) (S := _) (R := [(true, ow 3 v59 (List.map (int i64) ([r55] : List (Int)))), (true, bx b3 26 [(int i64 p0_g_Size), p0_g_Rowsv]), (false, rd p0_g_Rowsv (List.map (int i64) p0_g_Rows))]) (ρ := a.eval) (dst := some 20) (ty := _) (pos := _) (af := _) (gd := _) (x := .tmp 17) (y := .tmp 19) i64_one hM Tryd.underlying24 ty_el_3 rfl (by decide) (hS.ev rfl) (hS.ev rfl) (rd_of_ow (hM.get 1 rfl)) (catO_some hx)
  refine st_val hS rfl rfl (by decide) hr fun a hS => ?_
  refine st_val hS rfl rfl (by decide) (rv_assign (hS.ev rfl)) fun a hS => ?_
  refine wpList_nil ?_
  refine hK56 _ _ ?_
  refine wp_region_lit ?_
  refine st_val hS rfl rfl (by decide) (rv_move (hS.ev rfl)) fun a hS => ?_
  refine st_val hS rfl rfl (by decide) (rv_move (hS.ev rfl)) fun a hS => ?_
  refine st_val hS rfl rfl (by decide) (rv_andNot (hS.ev rfl) (hS.ev rfl)) fun a hS => ?_
  refine st_val hS rfl rfl (by decide) (rv_assign (hS.ev rfl)) fun a hS => ?_
  refine wpList_nil ?_
  cases hF
  exact hN2 _ _ _ rfl ⟨v60, (hS.sub (sub_cons rfl (sub_cons rfl (sub_cons rfl sub_nil)))), (hM.pick [2, 3, 0] (by decide) rfl)⟩
 ·refine cond_f hS rfl hc ?_
  refine wp_exit ?_
  cases hF
  exact hJ1 l38 v37 _ _ (hS.sub (sub_cons rfl sub_nil)) (hM.pick [2] (by decide) rfl) (by have e := hX2 _ rfl; subst e; exact hF2)


theorem c_impl_PartsOf (F : Nat) (p0_g_Size : Int) (p0_g_Rows : List Int) (p1_set : Int) (p0_g_Rowsv : Value) {r : (List (Int))} (hF : S_impl_PartsOf F p0_g_Size p0_g_Rows p1_set = some r) (w0 : World) (h0 : RdRow w0 p0_g_Rowsv (List.map (int i64) p0_g_Rows)) :
    Calls Tryd.prog 7 [(Value.agg #[(int i64 p0_g_Size), p0_g_Rowsv]), (int i64 p1_set)].toArray w0 (retPost fun v w' => Mem Nob w0 w' [(true, ow 3 v (List.map (int i64) r))]) := by
 have hM : Mem Nob w0 w0 [(false, rd p0_g_Rowsv (List.map (int i64) p0_g_Rows))] := (Mem.rcons (Mem.nil w0) h0 (by simp))
 refine enter2 Tryd.func7 rfl rfl rfl fun Q a hQr hQn hQp hS => ?_
 have hS : Sl 12 [(0, (Value.agg #[(int i64 p0_g_Size), p0_g_Rowsv])), (1, (int i64 p1_set))] a := hS
 unfold S_impl_PartsOf at hF
 refine wp_seq_k fun K1 hK1 => ?_
 refine wp_region_lit ?_
 obtain ⟨b3, w, hr, hM⟩ := hM.boxE (ρ := a.eval) (dst := some 2) (ty := _) (pos := _) (af := _) (gd := _) (x := .tmp 0) (T := 26) [(int i64 p0_g_Size), p0_g_Rowsv] (hS.ev rfl) rfl
 refine st_val hS rfl rfl (by decide) hr fun a hS => ?_
 refine st_val hS rfl rfl (by decide) (rv_assign (hS.ev rfl)) fun a hS => ?_
 refine wpList_nil ?_
 refine hK1 _ _ ?_
 refine wp_seq_k fun K4 hK4 => ?_
 refine wp_seq_k fun K9 hK9 => ?_
 refine wp_region_lit ?_
 refine st_val hS rfl rfl (by decide) (rv_load_agg (hS.ev rfl) ty_ag_26 (hM.get 0 rfl) ty_sz_26) fun a hS => ?_
 refine st_val hS rfl rfl (by decide) (rv_move (hS.ev rfl)) fun a hS => ?_
 obtain ⟨r11, hr, hF⟩ := bind_some hF
 refine st_wp hS rfl (wp_call hS rfl rfl (by decide) fn_ok_10 rfl (c_impl_IsSet F p0_g_Size p0_g_Rows p1_set p0_g_Rowsv hr _ (hM.get 1 rfl)) fun v w a hK hS => ?_)
 obtain ⟨rfl, hN⟩ := hK
 have hM := hM.fra hN.fr
 refine st_val hS rfl rfl (by decide) (rv_not (hS.ev rfl)) fun a hS => ?_
 refine wpList_nil ?_
 refine hK9 _ _ ?_
 rcases ite_some hF with ⟨hc, hF⟩ | ⟨hc, hF⟩
 ·refine cond_t hS rfl hc ?_
  refine wp_seq_k fun K12 hK12 => ?_
  refine wp_region_lit ?_
  refine st_val hS rfl rfl (by decide) (rv_assign (hS.ev rfl)) fun a hS => ?_
  refine wpList_nil ?_
  refine hK12 _ _ ?_
  refine wp_ret ?_
  cases hF
  have hM := hM.addNil 3
  exact hQr _ _ (r_1 hS rfl rfl (hM.pick [0] (by decide) rfl))
 ·refine cond_f hS rfl hc ?_
  refine wp_skip ?_
  refine hK4 _ _ ?_
  refine wp_seq_k fun K13 hK13 => ?_
  refine wp_region_lit ?_
  refine st_val hS rfl rfl (by decide) (rv_load_agg (hS.ev rfl) ty_ag_26 (hM.get 0 rfl) ty_sz_26) fun a hS => ?_
  refine st_val hS rfl rfl (by decide) (rv_move (hS.ev rfl)) fun a hS => ?_
  obtain ⟨r16, hr, hF⟩ := bind_some hF
  refine st_wp hS rfl (wp_call hS rfl rfl (by decide) fn_ok_59 rfl (c_impl_parts F p0_g_Size p0_g_Rows p1_set p0_g_Rowsv hr _ (hM.get 1 rfl)) fun v17 w a hK hS => ?_)
  have hN := hK
  have hM := hM.add hN rfl
  refine st_val hS rfl rfl (by decide) (rv_assign (hS.ev rfl)) fun a hS => ?_
  refine wpList_nil ?_
  refine hK13 _ _ ?_
  have hS : Sl 12 [(4, v17)] a := hS.sub (sub_cons rfl sub_nil)
  have hM := hM.pick [0] (by decide) rfl
  refine wp_ret ?_
  cases hF
  exact hQr _ _ (r_1 hS rfl rfl (hM.pick [0] (by decide) rfl))


theorem c_laws_sameInts (F : Nat) (p0_a : List Int) (p1_b : List Int) (p0_av : Value) (p1_bv : Value) {r : Bool} (hF : S_laws_sameInts F p0_a p1_b = some r) (w0 : World) (h0 : RdRow w0 p0_av (List.map (int i64) p0_a)) (h1 : RdRow w0 p1_bv (List.map (int i64) p1_b)) :
    Calls Tryd.prog 8 [p0_av, p1_bv].toArray w0 (retPost fun v w' => v = (Value.bool r) ∧ Mem Nob w0 w' []) := by
 have hM : Mem Nob w0 w0 [(false, rd p0_av (List.map (int i64) p0_a)), (false, rd p1_bv (List.map (int i64) p1_b))] := (Mem.rcons (Mem.rcons (Mem.nil w0) h1 (by simp)) h0 (by simp))
 refine enter2 Tryd.func8 rfl rfl rfl fun Q a hQr hQn hQp hS => ?_
 have hS : Sl 26 [(0, p0_av), (1, p1_bv)] a := hS
 unfold S_laws_sameInts at hF
 refine wp_seq_k fun K1 hK1 => ?_
 refine wp_region_lit ?_
 refine st_val hS rfl rfl (by decide) (rv_assign (hS.ev rfl)) fun a hS => ?_
 refine wpList_nil ?_
 refine hK1 _ _ ?_
 refine wp_seq_k fun K2 hK2 => ?_
 refine wp_seq_k fun K5 hK5 => ?_
 refine wp_region_lit ?_
 refine st_val hS rfl rfl (by decide) (rv_move (hS.ev rfl)) fun a hS => ?_
 refine st_val hS rfl rfl (by decide) (rv_len_rowM Tryd.underlying24 (hS.ev rfl) (hM.get 0 rfl)) fun a hS => ?_
 refine st_val hS rfl rfl (by decide) (rv_move (hS.ev rfl)) fun a hS => ?_
 refine st_val hS rfl rfl (by decide) (rv_len_rowM Tryd.underlying24 (hS.ev rfl) (hM.get 1 rfl)) fun a hS => ?_
 refine st_val hS rfl rfl (by decide) (rv_neq (hS.ev rfl) (hS.ev rfl)) fun a hS => ?_
 refine wpList_nil ?_
 refine hK5 _ _ ?_
 rcases ite_some hF with ⟨hc, hF⟩ | ⟨hc, hF⟩
 ·refine cond_t hS rfl hc ?_
  refine wp_seq_k fun K6 hK6 => ?_
  refine wp_region_lit ?_
  refine st_val hS rfl rfl (by decide) (rv_assign (hS.ev rfl)) fun a hS => ?_
  refine wpList_nil ?_
  refine hK6 _ _ ?_
  refine wp_ret ?_
  cases hF
  exact hQr _ _ (r_1 hS rfl rfl ⟨rfl, hM.pick [] (by decide) rfl⟩)
 ·refine cond_f hS rfl hc ?_
  refine wp_skip ?_
  refine hK2 _ _ ?_
  refine wp_seq_k fun K7 hK7 => ?_
  have hJ1 : ∀ (a : Act) (w : World), Sl 26 [] a → Mem Nob w0 w [] → S_laws_sameInts_j1 F = some r → K7 a w := by
   intro a w hS hM hF
   unfold S_laws_sameInts_j1 at hF
   refine hK7 _ _ ?_
   refine wp_seq_k fun K42 hK42 => ?_
   refine wp_region_lit ?_
   refine st_val hS rfl rfl (by decide) (rv_assign (hS.ev rfl)) fun a hS => ?_
   refine wpList_nil ?_
   refine hK42 _ _ ?_
   refine wp_ret ?_
   cases hF
   exact hQr _ _ (r_1 hS rfl rfl ⟨rfl, hM.pick [] (by decide) rfl⟩)
  refine wp_seq_k fun K43 hK43 => ?_
  refine wp_region_lit ?_
  refine st_val hS rfl rfl (by decide) (rv_assign (hS.ev rfl)) fun a hS => ?_
  refine wpList_nil ?_
  refine hK43 _ _ ?_
  refine wp_block ?_
  obtain ⟨lb2, hl2, hF2⟩ := bind_some hF
  refine wp_loop_sh (fun s => S_laws_sameInts_l2 F p0_a p1_b s) (fun s a w => Sl 26 [(0, p0_av), (1, p1_bv), (5, (int i64 s))] a ∧ Mem Nob w0 w [(false, rd p0_av (List.map (int i64) p0_a)), (false, rd p1_bv (List.map (int i64) p1_b))]) hl2 ⟨(hS.sub (sub_cons rfl (sub_cons rfl (sub_cons rfl sub_nil)))), (hM.pick [0, 1] (by decide) rfl)⟩ ?_
  rintro K2 x44 a w res2 ⟨hS, hM⟩ hF hN2 hX2
  have hF : S_laws_sameInts_l2 F p0_a p1_b x44 = some res2 := hF
  have hS : Sl 26 [(0, p0_av), (1, p1_bv), (5, (int i64 x44))] a := hS
  have hM : Mem Nob w0 w [(false, rd p0_av (List.map (int i64) p0_a)), (false, rd p1_bv (List.map (int i64) p1_b))] := hM
  unfold S_laws_sameInts_l2 at hF
  refine wp_seq_k fun K61 hK61 => ?_
  refine wp_seq_k fun K63 hK63 => ?_
  refine wp_region_lit ?_
  refine st_val hS rfl rfl (by decide) (rv_move (hS.ev rfl)) fun a hS => ?_
  refine st_val hS rfl rfl (by decide) (rv_move (hS.ev rfl)) fun a hS => ?_
  refine st_val hS rfl rfl (by decide) (rv_len_rowM Tryd.underlying24 (hS.ev rfl) (hM.get 0 rfl)) fun a hS => ?_
  refine st_val hS rfl rfl (by decide) (rv_lss (hS.ev rfl) (hS.ev rfl)) fun a hS => ?_
  refine wpList_nil ?_
  refine hK63 _ _ ?_
  rcases ite_some hF with ⟨hc, hF⟩ | ⟨hc, hF⟩
  ·refine cond_t hS rfl hc ?_
   refine wp_skip ?_
   refine hK61 _ _ ?_
   refine wp_seq_k fun K64 hK64 => ?_
   refine wp_block ?_
   refine wp_seq_k fun K71 hK71 => ?_
   refine an_startB 9 Nob ty_mixed (by kernel_rfl) fun w hf => ?_
   have hM := hM.fra hf
   have hB := hM
   have hM := hB.reg0
   refine tkB hS 0 1 (by kernel_rfl) rfl rfl rfl hQp rfl (fun w' hC' => (rv_move (hS.ev rfl))) hM.fr fun a hS => ?_
   refine tkB hS 1 3 (by kernel_rfl) rfl rfl rfl hQp rfl (fun w' hC' => (rv_move (hS.ev rfl))) hM.fr fun a hS => ?_
   obtain ⟨x74, hx, hF⟩ := bind_some hF
   obtain ⟨hi0, hi1, hex74⟩ := idxL_some hx
   refine tkB hS 2 7 (by kernel_rfl) rfl rfl rfl hQp rfl (fun w' hC' => (rv_indexAddr Tryd.underlying24 ty_el_3 (hS.ev rfl) (hS.ev rfl) (hM.get 0 rfl) hi0 (map_len hi1))) hM.fr fun a hS => ?_
   refine tkB hS 3 15 (by kernel_rfl) rfl rfl rfl hQp rfl (fun w' hC' => (rv_load_el (hS.ev rfl) ty_ag_3 ((hB.fra hC').get 0 rfl) (mget hex74))) hM.fr fun a hS => ?_
   refine tkB hS 4 31 (by kernel_rfl) rfl rfl rfl hQp rfl (fun w' hC' => (rv_move (hS.ev rfl))) hM.fr fun a hS => ?_
   refine tkB hS 5 63 (by kernel_rfl) rfl rfl rfl hQp rfl (fun w' hC' => (rv_move (hS.ev rfl))) hM.fr fun a hS => ?_
   obtain ⟨x75, hx, hF⟩ := bind_some hF
   obtain ⟨hi0, hi1, hex75⟩ := idxL_some hx
   refine tkB hS 6 127 (by kernel_rfl) rfl rfl rfl hQp rfl (fun w' hC' => (rv_indexAddr Tryd.underlying24 ty_el_3 (hS.ev rfl) (hS.ev rfl) (hM.get 1 rfl) hi0 (map_len hi1))) hM.fr fun a hS => ?_
   refine tkB hS 7 255 (by kernel_rfl) rfl rfl rfl hQp rfl (fun w' hC' => (rv_load_el (hS.ev rfl) ty_ag_3 ((hB.fra hC').get 1 rfl) (mget hex75))) hM.fr fun a hS => ?_
   refine tkB hS 8 511 (by kernel_rfl) rfl rfl rfl hQp rfl (fun w' hC' => (rv_neq (hS.ev rfl) (hS.ev rfl))) hM.fr fun a hS => ?_
   refine an_done (by kernel_rfl) ?_
   have hN := hM.pick [] (by decide) rfl
   have hM := Mem.callo0 hB hN rfl
   refine hK71 _ _ ?_
   have hS : Sl 26 [(0, p0_av), (1, p1_bv), (5, (int i64 x44)), (25, (Value.bool (x74 != x75)))] a := hS.sub (sub_cons rfl (sub_cons rfl (sub_cons rfl (sub_cons rfl sub_nil))))
   rcases ite_some hF with ⟨hc, hF⟩ | ⟨hc, hF⟩
   ·refine cond_t hS rfl hc ?_
    refine wp_seq_k fun K76 hK76 => ?_
    refine wp_region_lit ?_
    refine st_val hS rfl rfl (by decide) (rv_assign (hS.ev rfl)) fun a hS => ?_
    refine wpList_nil ?_
    refine hK76 _ _ ?_
    refine wp_ret ?_
    cases hF
    have e := hX2 _ rfl
    subst e
    have hF := hF2
    cases hF
    exact hQr _ _ (r_1 hS rfl rfl ⟨rfl, hM.pick [] (by decide) rfl⟩)
   ·refine cond_f hS rfl hc ?_
    refine wp_skip ?_
    refine hK64 _ _ ?_
    refine wp_region_lit ?_
    refine st_val hS rfl rfl (by decide) (rv_move (hS.ev rfl)) fun a hS => ?_
    refine st_val hS rfl rfl (by decide) (rv_add (hS.ev rfl) (hS.ev rfl)) fun a hS => ?_
    refine st_val hS rfl rfl (by decide) (rv_assign (hS.ev rfl)) fun a hS => ?_
    refine wpList_nil ?_
    cases hF
    exact hN2 _ _ _ rfl ⟨(hS.sub (sub_cons rfl (sub_cons rfl (sub_cons rfl sub_nil)))), (hM.pick [0, 1] (by decide) rfl)⟩
  ·refine cond_f hS rfl hc ?_
   refine wp_exit ?_
   cases hF
   exact hJ1 _ _ (hS.sub sub_nil) (hM.pick [] (by decide) rfl) (by have e := hX2 _ rfl; subst e; exact hF2)


theorem c_spec_l3Grow (F : Nat) (p0_g_Size : Int) (p0_g_Rows : List Int) (p1_from : Int) (p2_set : Int) (p0_g_Rowsv : Value) {r : Int} (hF : S_spec_l3Grow F p0_g_Size p0_g_Rows p1_from p2_set = some r) (w0 : World) (h0 : RdRow w0 p0_g_Rowsv (List.map (int i64) p0_g_Rows)) :
    Calls Tryd.prog 60 [(Value.agg #[(int i64 p0_g_Size), p0_g_Rowsv]), (int i64 p1_from), (int i64 p2_set)].toArray w0 (retPost fun v w' => v = (int i64 r) ∧ Mem Nob w0 w' []) := by
 have hM : Mem Nob w0 w0 [(false, rd p0_g_Rowsv (List.map (int i64) p0_g_Rows))] := (Mem.rcons (Mem.nil w0) h0 (by simp))
 refine enter2 Tryd.func60 rfl rfl rfl fun Q a hQr hQn hQp hS => ?_
 have hS : Sl 22 [(0, (Value.agg #[(int i64 p0_g_Size), p0_g_Rowsv])), (1, (int i64 p1_from)), (2, (int i64 p2_set))] a := hS
 unfold S_spec_l3Grow at hF
 refine wp_seq_k fun K1 hK1 => ?_
 refine wp_region_lit ?_
 obtain ⟨b3, w, hr, hM⟩ := hM.boxE (ρ := a.eval) (dst := some 3) (ty := _) (pos := _) (af := _) (gd := _) (x := .tmp 0) (T := 26) [(int i64 p0_g_Size), p0_g_Rowsv] (hS.ev rfl) rfl
 refine st_val hS rfl rfl (by decide) hr fun a hS => ?_
 refine st_val hS rfl rfl (by decide) (rv_assign (hS.ev rfl)) fun a hS => ?_
 refine wpList_nil ?_
 refine hK1 _ _ ?_
 refine wp_seq_k fun K4 hK4 => ?_
 refine wp_region_lit ?_
 refine st_val hS rfl rfl (by decide) (rv_move (hS.ev rfl)) fun a hS => ?_
 refine st_val hS rfl rfl (by decide) (rv_assign (hS.ev rfl)) fun a hS => ?_
 refine wpList_nil ?_
 refine hK4 _ _ ?_
 refine wp_seq_k fun K5 hK5 => ?_
 have hJ1 : ∀ (x21 : Int) (a : Act) (w : World), Sl 22 [(7, (int i64 x21))] a → Mem Nob w0 w [] → S_spec_l3Grow_j1 F x21 = some r → K5 a w := by
  intro x21 a w hS hM hF
  unfold S_spec_l3Grow_j1 at hF
  refine hK5 _ _ ?_
  refine wp_seq_k fun K22 hK22 => ?_
  refine wp_region_lit ?_
  refine st_val hS rfl rfl (by decide) (rv_move (hS.ev rfl)) fun a hS => ?_
  refine st_val hS rfl rfl (by decide) (rv_assign (hS.ev rfl)) fun a hS => ?_
  refine wpList_nil ?_
  refine hK22 _ _ ?_
  refine wp_ret ?_
  cases hF
  exact hQr _ _ (r_1 hS rfl rfl ⟨rfl, hM.pick [] (by decide) rfl⟩)
 refine wp_seq_k fun K23 hK23 => ?_
 refine wp_region_lit ?_
 refine st_val hS rfl rfl (by decide) (rv_assign (hS.ev rfl)) fun a hS => ?_
 refine wpList_nil ?_
 refine hK23 _ _ ?_
 refine wp_block ?_
 obtain ⟨lb2, hl2, hF2⟩ := bind_some hF
 refine wp_loop_sh (fun s => S_spec_l3Grow_l2 F p0_g_Size p0_g_Rows p2_set s.1 s.2) (fun s a w => Sl 22 [(2, (int i64 p2_set)), (3, (fdp b3 0)), (7, (int i64 s.1)), (8, (int i64 s.2))] a ∧ Mem Nob w0 w [(true, bx b3 26 [(int i64 p0_g_Size), p0_g_Rowsv]), (false, rd p0_g_Rowsv (List.map (int i64) p0_g_Rows))]) hl2 ⟨(hS.sub (sub_cons rfl (sub_cons rfl (sub_cons rfl (sub_cons rfl sub_nil))))), (hM.pick [0, 1] (by decide) rfl)⟩ ?_
 rintro K2 ⟨x24, x25⟩ a w res2 ⟨hS, hM⟩ hF hN2 hX2
 have hF : S_spec_l3Grow_l2 F p0_g_Size p0_g_Rows p2_set x24 x25 = some res2 := hF
 have hS : Sl 22 [(2, (int i64 p2_set)), (3, (fdp b3 0)), (7, (int i64 x24)), (8, (int i64 x25))] a := hS
 have hM : Mem Nob w0 w [(true, bx b3 26 [(int i64 p0_g_Size), p0_g_Rowsv]), (false, rd p0_g_Rowsv (List.map (int i64) p0_g_Rows))] := hM
 unfold S_spec_l3Grow_l2 at hF
 refine wp_seq_k fun K32 hK32 => ?_
 refine wp_seq_k fun K34 hK34 => ?_
 refine wp_region_lit ?_
 refine st_val hS rfl rfl (by decide) (rv_move (hS.ev rfl)) fun a hS => ?_
 refine st_val hS rfl rfl (by decide) (rv_fieldAddr ty_fd_26_0 (hS.ev rfl)) fun a hS => ?_
 refine st_val hS rfl rfl (by decide) (rv_load_bx (hS.ev rfl) ty_ag_3 (hM.get 0 rfl) rfl) fun a hS => ?_
 refine st_val hS rfl rfl (by decide) (rv_lss (hS.ev rfl) (hS.ev rfl)) fun a hS => ?_
 refine wpList_nil ?_
 refine hK34 _ _ ?_
 rcases ite_some hF with ⟨hc, hF⟩ | ⟨hc, hF⟩
 ·refine cond_t hS rfl hc ?_
  refine wp_skip ?_
  refine hK32 _ _ ?_
  refine wp_seq_k fun K35 hK35 => ?_
  refine wp_block ?_
  refine wp_region_lit ?_
  refine st_val hS rfl rfl (by decide) (rv_load_agg (hS.ev rfl) ty_ag_26 (hM.get 0 rfl) ty_sz_26) fun a hS => ?_
  refine st_val hS rfl rfl (by decide) (rv_move (hS.ev rfl)) fun a hS => ?_
  obtain ⟨r37, hr, hF⟩ := bind_some hF
  refine st_wp hS rfl (wp_call hS rfl rfl (by decide) fn_ok_19 rfl (c_spec_AroundSet F p0_g_Size p0_g_Rows x24 p0_g_Rowsv hr _ (hM.get 1 rfl)) fun v w a hK hS => ?_)
  obtain ⟨rfl, hN⟩ := hK
  have hM := hM.fra hN.fr
  refine st_val hS rfl rfl (by decide) (rv_move (hS.ev rfl)) fun a hS => ?_
  refine st_val hS rfl rfl (by decide) (rv_and (hS.ev rfl) (hS.ev rfl)) fun a hS => ?_
  refine st_val hS rfl rfl (by decide) (rv_assign (hS.ev rfl)) fun a hS => ?_
  refine wpList_nil ?_
  refine hK35 _ _ ?_
  have hS : Sl 22 [(2, (int i64 p2_set)), (3, (fdp b3 0)), (7, (int i64 (bAnd r37 p2_set))), (8, (int i64 x25))] a := hS.sub (sub_cons rfl (sub_cons rfl (sub_cons rfl (sub_cons rfl sub_nil))))
  refine wp_region_lit ?_
  refine st_val hS rfl rfl (by decide) (rv_move (hS.ev rfl)) fun a hS => ?_
  refine st_val hS rfl rfl (by decide) (rv_add (hS.ev rfl) (hS.ev rfl)) fun a hS => ?_
  refine st_val hS rfl rfl (by decide) (rv_assign (hS.ev rfl)) fun a hS => ?_
  refine wpList_nil ?_
  cases hF
  exact hN2 _ _ _ rfl ⟨(hS.sub (sub_cons rfl (sub_cons rfl (sub_cons rfl (sub_cons rfl sub_nil))))), (hM.pick [0, 1] (by decide) rfl)⟩
 ·refine cond_f hS rfl hc ?_
  refine wp_exit ?_
  cases hF
  exact hJ1 x24 _ _ (hS.sub (sub_cons rfl sub_nil)) (hM.pick [] (by decide) rfl) (by have e := hX2 _ rfl; subst e; exact hF2)


theorem c_spec_PartsOf (F : Nat) (p0_g_Size : Int) (p0_g_Rows : List Int) (p1_set : Int) (p0_g_Rowsv : Value) {r : (List (Int))} (hF : S_spec_PartsOf F p0_g_Size p0_g_Rows p1_set = some r) (w0 : World) (h0 : RdRow w0 p0_g_Rowsv (List.map (int i64) p0_g_Rows)) :
    Calls Tryd.prog 9 [(Value.agg #[(int i64 p0_g_Size), p0_g_Rowsv]), (int i64 p1_set)].toArray w0 (retPost fun v w' => Mem Nob w0 w' [(true, ow 3 v (List.map (int i64) r))]) := by
 have hM : Mem Nob w0 w0 [(false, rd p0_g_Rowsv (List.map (int i64) p0_g_Rows))] := (Mem.rcons (Mem.nil w0) h0 (by simp))
 refine enter2 Tryd.func9 rfl rfl rfl fun Q a hQr hQn hQp hS => ?_
 have hS : Sl 35 [(0, (Value.agg #[(int i64 p0_g_Size), p0_g_Rowsv])), (1, (int i64 p1_set))] a := hS
 unfold S_spec_PartsOf at hF
 refine wp_seq_k fun K1 hK1 => ?_
 refine wp_region_lit ?_
 obtain ⟨b3, w, hr, hM⟩ := hM.boxE (ρ := a.eval) (dst := some 2) (ty := _) (pos := _) (af := _) (gd := _) (x := .tmp 0) (T := 26) [(int i64 p0_g_Size), p0_g_Rowsv] (hS.ev rfl) rfl
 refine st_val hS rfl rfl (by decide) hr fun a hS => ?_
 refine st_val hS rfl rfl (by decide) (rv_assign (hS.ev rfl)) fun a hS => ?_
 refine wpList_nil ?_
 refine hK1 _ _ ?_
 refine wp_seq_k fun K4 hK4 => ?_
 refine wp_region_lit ?_
 obtain ⟨v6, w, hr, hM⟩ := Mem.litE (f := (int i64)) (dst := some 9) (ty := _) (pos := _) (af := _) (gd := _) (ps := []) ([] : List (Int)) i64_one hM hS Tryd.underlying24 ty_el_3 rfl rfl rfl rfl
 refine st_val hS rfl rfl (by decide) hr fun a hS => ?_
 refine st_val hS rfl rfl (by decide) (rv_assign (hS.ev rfl)) fun a hS => ?_
 refine wpList_nil ?_
 refine hK4 _ _ ?_
 refine wp_seq_k fun K7 hK7 => ?_
 refine wp_region_lit ?_
 refine st_val hS rfl rfl (by decide) (rv_move (hS.ev rfl)) fun a hS => ?_
 refine st_val hS rfl rfl (by decide) (rv_assign (hS.ev rfl)) fun a hS => ?_
 refine wpList_nil ?_
 refine hK7 _ _ ?_
 refine wp_seq_k fun K8 hK8 => ?_
 have hJ1 : ∀ (l61 : List Int) (v60 : Value) (a : Act) (w : World), Sl 35 [(5, v60)] a → Mem Nob w0 w [(true, ow 3 v60 (List.map (int i64) l61))] → S_spec_PartsOf_j1 F l61 = some r → K8 a w := by
  intro l61 v60 a w hS hM hF
  unfold S_spec_PartsOf_j1 at hF
  refine hK8 _ _ ?_
  refine wp_seq_k fun K62 hK62 => ?_
  refine wp_region_lit ?_
  refine st_val hS rfl rfl (by decide) (rv_move (hS.ev rfl)) fun a hS => ?_
  refine st_val hS rfl rfl (by decide) (rv_assign (hS.ev rfl)) fun a hS => ?_
  refine wpList_nil ?_
  refine hK62 _ _ ?_
  refine wp_ret ?_
  cases hF
  exact hQr _ _ (r_1 hS rfl rfl (hM.pick [0] (by decide) rfl))
 refine wp_block ?_
 obtain ⟨lb2, hl2, hF2⟩ := bind_some hF
 refine wp_loop_sh (fun s => S_spec_PartsOf_l2 F p0_g_Size p0_g_Rows p1_set s.1 s.2) (fun s a w => ∃ (v63 : Value), Sl 35 [(1, (int i64 p1_set)), (2, (fdp b3 0)), (5, v63), (6, (int i64 s.2))] a ∧ Mem Nob w0 w [(true, bx b3 26 [(int i64 p0_g_Size), p0_g_Rowsv]), (false, rd p0_g_Rowsv (List.map (int i64) p0_g_Rows)), (true, ow 3 v63 (List.map (int i64) s.1))]) hl2 ⟨v6, (hS.sub (sub_cons rfl (sub_cons rfl (sub_cons rfl (sub_cons rfl sub_nil))))), (hM.pick [1, 2, 0] (by decide) rfl)⟩ ?_
 rintro K2 ⟨l64, x65⟩ a w res2 ⟨v63, hS, hM⟩ hF hN2 hX2
 have hF : S_spec_PartsOf_l2 F p0_g_Size p0_g_Rows p1_set l64 x65 = some res2 := hF
 have hS : Sl 35 [(1, (int i64 p1_set)), (2, (fdp b3 0)), (5, v63), (6, (int i64 x65))] a := hS
 have hM : Mem Nob w0 w [(true, bx b3 26 [(int i64 p0_g_Size), p0_g_Rowsv]), (false, rd p0_g_Rowsv (List.map (int i64) p0_g_Rows)), (true, ow 3 v63 (List.map (int i64) l64))] := hM
 unfold S_spec_PartsOf_l2 at hF
 refine wp_seq_k fun K90 hK90 => ?_
 refine wp_seq_k fun K95 hK95 => ?_
 have hJ3 : ∀ (p97 : Bool) (a : Act) (w : World), Sl 35 [(1, (int i64 p1_set)), (2, (fdp b3 0)), (5, v63), (6, (int i64 x65)), (17, (Value.bool p97))] a → Mem Nob w0 w [(true, bx b3 26 [(int i64 p0_g_Size), p0_g_Rowsv]), (false, rd p0_g_Rowsv (List.map (int i64) p0_g_Rows)), (true, ow 3 v63 (List.map (int i64) l64))] → S_spec_PartsOf_j3 F p0_g_Size p0_g_Rows p1_set l64 x65 p97 = some res2 → K95 a w := by
  intro p97 a w hS hM hF
  unfold S_spec_PartsOf_j3 at hF
  refine hK95 _ _ ?_
  rcases ite_some hF with ⟨hc, hF⟩ | ⟨hc, hF⟩
  ·refine cond_t hS rfl hc ?_
   refine wp_skip ?_
   refine hK90 _ _ ?_
   refine wp_block ?_
   refine wp_seq_k fun K98 hK98 => ?_
   refine wp_region_lit ?_
   refine st_val hS rfl rfl (by decide) (rv_move (hS.ev rfl)) fun a hS => ?_
   obtain ⟨r102, hr, hF⟩ := bind_some hF
   refine st_wp hS rfl (wp_call hS rfl rfl (by decide) fn_ok_15 rfl (c_spec_ListOf F x65 hr _) fun v103 w a hK hS => ?_)
   have hN := hK
   have hM := hM.add hN rfl
   obtain ⟨x104, hx, hF⟩ := bind_some hF
   obtain ⟨hi0, hi1, hex104⟩ := idxL_some hx
   refine st_val hS rfl rfl (by decide) (rv_indexAddr Tryd.underlying24 ty_el_3 (hS.ev rfl) (hS.ev rfl) (rd_of_ow (hM.get 0 rfl)) hi0 (map_len hi1)) fun a hS => ?_
   refine st_val hS rfl rfl (by decide) (rv_load_el (hS.ev rfl) ty_ag_3 (rd_of_ow (hM.get 0 rfl)) (mget hex104)) fun a hS => ?_
   refine st_val hS rfl rfl (by decide) (rv_assign (hS.ev rfl)) fun a hS => ?_
   refine wpList_nil ?_
   refine hK98 _ _ ?_
   refine wp_seq_k fun K105 hK105 => ?_
   refine an_startB 6 Nob ty_mixed (by kernel_rfl) fun w hf => ?_
   have hM := hM.fra hf
   have hB := hM
   have hM := hB.reg0
   refine tkB hS 0 1 (by kernel_rfl) rfl rfl rfl hQp rfl (fun w' hC' => (rv_load_agg (hS.ev rfl) ty_ag_26 ((hB.fra hC').get 1 rfl) ty_sz_26)) hM.fr fun a hS => ?_
   refine tkB hS 1 3 (by kernel_rfl) rfl rfl rfl hQp rfl (fun w' hC' => (rv_move (hS.ev rfl))) hM.fr fun a hS => ?_
   obtain ⟨_, hx, hF⟩ := bind_some hF
   have hi0 := nnO_some hx
   refine tkB hS 2 7 (by kernel_rfl) rfl rfl rfl hQp rfl (fun w' hC' => (rv_shl (hS.ev rfl) (hS.ev rfl) hi0)) hM.fr fun a hS => ?_
   refine tkB hS 3 15 (by kernel_rfl) rfl rfl rfl hQp rfl (fun w' hC' => (rv_move (hS.ev rfl))) hM.fr fun a hS => ?_
   obtain ⟨r107, hr, hF⟩ := bind_some hF
   refine an_oneB hS (i := 4) 31 (by kernel_rfl) rfl (by kernel_rfl) rfl ?_
   refine wp_call hS rfl rfl (by decide) fn_ok_60 rfl (c_spec_l3Grow F p0_g_Size p0_g_Rows (shL 1 x104) p1_set p0_g_Rowsv hr _ (hM.get 2 rfl)) fun v w a hK hS => ?_
   obtain ⟨rfl, hN⟩ := hK
   have hM := hM.fra hN.fr
   refine ⟨hM.fr, ?_⟩
   refine tkB hS 5 63 (by kernel_rfl) rfl rfl rfl hQp rfl (fun w' hC' => (rv_assign (hS.ev rfl))) hM.fr fun a hS => ?_
   refine an_done (by kernel_rfl) ?_
   have hN := hM.pick [] (by decide) rfl
   have hM := Mem.callo0 hB hN rfl
   refine hK105 _ _ ?_
   have hS : Sl 35 [(1, (int i64 p1_set)), (2, (fdp b3 0)), (5, v63), (6, (int i64 x65)), (8, (int i64 r107))] a := hS.sub (sub_cons rfl (sub_cons rfl (sub_cons rfl (sub_cons rfl (sub_cons rfl sub_nil)))))
   have hM := hM.pick [1, 2, 3] (by decide) rfl
   refine wp_seq_k fun K108 hK108 => ?_
   refine wp_region_lit ?_
   refine st_val hS rfl rfl (by decide) (rv_move (hS.ev rfl)) fun a hS => ?_
   refine st_val hS rfl rfl (by decide) (rv_move (hS.ev rfl)) fun a hS => ?_
   obtain ⟨v111, w, hr, hM⟩ := Mem.litE (f := (int i64)) (dst := some 29) (ty := _) (pos := _) (af := _) (gd := _) (ps := [(0, .tmp 28)]) ([r107] : List (Int)) i64_one hM hS Tryd.underlying24 ty_el_3 rfl rfl rfl rfl
   refine st_val hS rfl rfl (by decide) hr fun a hS => ?_
   obtain ⟨_, hx, hF⟩ := bind_some hF
   have hM := hM.pick [3, 0, 1, 2] (by decide) rfl
   obtain ⟨v112, w, hr, hM⟩ := Mem.appE (f := (int i64)) (S := _) (R := [(true, ow 3 v111 (List.map (int i64) ([r107] : List (Int)))), (true, bx b3 26 [(int i64 p0_g_Size), p0_g_Rowsv]), (false, rd p0_g_Rowsv (List.map (int i64) p0_g_Rows))]) (ρ := a.eval) (dst := some 30) (ty := _) (pos := _) (af := _) (gd := _) (x := .tmp 27) (y := .tmp 29) i64_one hM Tryd.underlying24 ty_el_3 rfl (by decide) (hS.ev rfl) (hS.ev rfl) (rd_of_ow (hM.get 1 rfl)) (catO_some hx)
   refine st_val hS rfl rfl (by decide) hr fun a hS => ?_
   refine st_val hS rfl rfl (by decide) (rv_assign (hS.ev rfl)) fun a hS => ?_
   refine wpList_nil ?_
   refine hK108 _ _ ?_
   refine wp_region_lit ?_
   refine st_val hS rfl rfl (by decide) (rv_move (hS.ev rfl)) fun a hS => ?_
   refine st_val hS rfl rfl (by decide) (rv_move (hS.ev rfl)) fun a hS => ?_
   refine st_val hS rfl rfl (by decide) (rv_sub (hS.ev rfl) (hS.ev rfl)) fun a hS => ?_
   refine st_val hS rfl rfl (by decide) (rv_assign (hS.ev rfl)) fun a hS => ?_
   refine wpList_nil ?_
   cases hF
   exact hN2 _ _ _ rfl ⟨v112, (hS.sub (sub_cons rfl (sub_cons rfl (sub_cons rfl (sub_cons rfl sub_nil))))), (hM.pick [2, 3, 0] (by decide) rfl)⟩
  ·refine cond_f hS rfl hc ?_
   refine wp_exit ?_
   cases hF
   exact hJ1 l64 v63 _ _ (hS.sub (sub_cons rfl sub_nil)) (hM.pick [2] (by decide) rfl) (by have e := hX2 _ rfl; subst e; exact hF2)
 refine wp_region_lit ?_
 refine st_val hS rfl rfl (by decide) (rv_move (hS.ev rfl)) fun a hS => ?_
 refine st_val hS rfl rfl (by decide) (rv_gtr (hS.ev rfl) (hS.ev rfl)) fun a hS => ?_
 refine st_val hS rfl rfl (by decide) (rv_move (hS.ev rfl)) fun a hS => ?_
 rcases ite_some hF with ⟨hc, hF⟩ | ⟨hc, hF⟩
 ·have hS := hS.setb (t := 13) rfl hc
  refine st_val hS rfl rfl (by decide) (rv_load_agg (hS.ev rfl) ty_ag_26 (hM.get 0 rfl) ty_sz_26) fun a hS => ?_
  refine st_val hS rfl rfl (by decide) (rv_move (hS.ev rfl)) fun a hS => ?_
  obtain ⟨r113, hr, hF⟩ := bind_some hF
  refine st_wp hS rfl (wp_call hS rfl rfl (by decide) fn_ok_11 rfl (c_spec_IsSet F p0_g_Size p0_g_Rows p1_set p0_g_Rowsv hr _ (hM.get 1 rfl)) fun v w a hK hS => ?_)
  obtain ⟨rfl, hN⟩ := hK
  have hM := hM.fra hN.fr
  refine st_val hS rfl rfl (by decide) (rv_pick_t (hS.ev rfl) (hS.ev rfl)) fun a hS => ?_
  refine wpList_nil ?_
  exact hJ3 r113 _ _ (hS.sub (sub_cons rfl (sub_cons rfl (sub_cons rfl (sub_cons rfl (sub_cons rfl sub_nil)))))) (hM.pick [0, 1, 2] (by decide) rfl) hF
 ·have hS := hS.setb (t := 13) rfl hc
  refine st_skip hS rfl rfl (by decide) fun a hS => ?_
  refine st_skip hS rfl rfl (by decide) fun a hS => ?_
  refine st_skip hS rfl rfl (by decide) fun a hS => ?_
  refine st_val hS rfl rfl (by decide) (rv_pick_f (hS.ev rfl) (hS.ev rfl)) fun a hS => ?_
  refine wpList_nil ?_
  exact hJ3 false _ _ (hS.sub (sub_cons rfl (sub_cons rfl (sub_cons rfl (sub_cons rfl (sub_cons rfl sub_nil)))))) (hM.pick [0, 1, 2] (by decide) rfl) hF


theorem c_laws_FnSets (F : Nat) (p0_code : List Int) (p0_codev : Value) {r : Bool} (hF : S_laws_FnSets F p0_code = some r) (w0 : World) (h0 : RdRow w0 p0_codev (List.map (int IntKind.u8) p0_code)) (h1 : (tabR Tryd.prog tabN).P w0) :
    Calls Tryd.prog 3 [p0_codev].toArray w0 (retPost fun v w' => v = (Value.bool r) ∧ Mem Nob w0 w' []) := by
 have hM : Mem Nob w0 w0 [(false, rd p0_codev (List.map (int IntKind.u8) p0_code)), (false, tabR Tryd.prog tabN)] := (Mem.rcons (Mem.gcons (Mem.nil w0) h1 (by simp)) h0 (by simp))
 refine enter2 Tryd.func3 rfl rfl rfl fun Q a hQr hQn hQp hS => ?_
 have hS : Sl 222 [(0, p0_codev)] a := hS
 unfold S_laws_FnSets at hF
 refine wp_seq_k fun K1 hK1 => ?_
 refine wp_region_lit ?_
 refine st_val hS rfl rfl (by decide) (rv_assign (hS.ev rfl)) fun a hS => ?_
 refine wpList_nil ?_
 refine hK1 _ _ ?_
 refine wp_seq_k fun K2 hK2 => ?_
 refine wp_seq_k fun K7 hK7 => ?_
 refine wp_region_lit ?_
 refine st_val hS rfl rfl (by decide) (rv_move (hS.ev rfl)) fun a hS => ?_
 obtain ⟨r9, hr, hF⟩ := bind_some hF
 refine st_wp hS rfl (wp_call hS rfl rfl (by decide) fn_ok_5 rfl (c_laws_big F p0_code p0_codev hr _ (hM.get 0 rfl)) fun v w a hK hS => ?_)
 obtain ⟨rfl, hN⟩ := hK
 have hM := hM.fra hN.fr
 refine wpList_nil ?_
 refine hK7 _ _ ?_
 rcases ite_some hF with ⟨hc, hF⟩ | ⟨hc, hF⟩
 ·refine cond_t hS rfl hc ?_
  refine wp_seq_k fun K10 hK10 => ?_
  refine wp_region_lit ?_
  refine st_val hS rfl rfl (by decide) (rv_assign (hS.ev rfl)) fun a hS => ?_
  refine wpList_nil ?_
  refine hK10 _ _ ?_
  refine wp_ret ?_
  cases hF
  exact hQr _ _ (r_1 hS rfl rfl ⟨rfl, hM.pick [] (by decide) rfl⟩)
 ·refine cond_f hS rfl hc ?_
  refine wp_skip ?_
  refine hK2 _ _ ?_
  refine wp_seq_k fun K11 hK11 => ?_
  refine wp_region_lit ?_
  refine st_val hS rfl rfl (by decide) (rv_move (hS.ev rfl)) fun a hS => ?_
  obtain ⟨r15, hr, hF⟩ := bind_some hF
  refine st_wp hS rfl (wp_call hS rfl rfl (by decide) fn_ok_6 rfl (c_spec_DrawPartsOf F p0_code p0_codev hr _ (hM.get 0 rfl)) fun v w a hK hS => ?_)
  obtain ⟨v16, rfl, hN⟩ := hK
  have hM := hM.add hN rfl
  refine st_val hS rfl rfl (by decide) (rv_move (hS.ev rfl)) fun a hS => ?_
  refine st_val hS rfl rfl (by decide) (rv_extract (hS.ev rfl) rfl) fun a hS => ?_
  refine st_val hS rfl rfl (by decide) (rv_extract (hS.ev rfl) rfl) fun a hS => ?_
  obtain ⟨b17, w, hr, hM⟩ := hM.allocE (ρ := a.eval) (dst := some 3) (ty := _) (pos := _) (af := _) (gd := _) (T := 26) (P := Tryd.prog) [(int i64 0), (Value.slice none 0 0)] ty_zr_26 rfl
  refine st_val hS rfl rfl (by decide) hr fun a hS => ?_
  have hM := hM.addNil 3
  have hM := hM.pick [1, 0, 2, 3, 4] (by decide) rfl
  obtain ⟨w, hr, hM⟩ := hM.st_agg (us := [(int i64 r15.1), v16]) (ρ := a.eval) (dst := none) (ty := _) (pos := _) (af := _) (gd := _) (x := .tmp 3) (y := .tmp 26) (hS.ev rfl) (hS.ev rfl) ty_sz_26 (all1_cons rfl (all1_cons (rd_one (rd_of_ow (hM.get 2 rfl))) all1_nil)) rfl
  refine st_unit hS rfl rfl hr ?_
  refine st_val hS rfl rfl (by decide) (rv_assign (hS.ev rfl)) fun a hS => ?_
  refine wpList_nil ?_
  refine hK11 _ _ ?_
  have hS : Sl 222 [(0, p0_codev), (3, (fdp b17 0)), (4, (int i64 r15.2.2))] a := hS.sub (sub_cons rfl (sub_cons rfl (sub_cons rfl sub_nil)))
  have hM := hM.pick [0, 2, 3, 4] (by decide) rfl
  refine wp_seq_k fun K18 hK18 => ?_
  refine wp_region_lit ?_
  refine st_val hS rfl rfl (by decide) (rv_load_agg (hS.ev rfl) ty_ag_26 (hM.get 0 rfl) ty_sz_26) fun a hS => ?_
  refine st_val hS rfl rfl (by decide) (rv_move (hS.ev rfl)) fun a hS => ?_
  obtain ⟨r21, hr, hF⟩ := bind_some hF
  refine st_wp hS rfl (wp_call hS rfl rfl (by decide) fn_ok_7 rfl (c_impl_PartsOf F r15.1 r15.2.1 r15.2.2 v16 hr _ (rd_of_ow (hM.get 1 rfl))) fun v22 w a hK hS => ?_)
  have hN := hK
  have hM := hM.add hN rfl
  refine st_val hS rfl rfl (by decide) (rv_assign (hS.ev rfl)) fun a hS => ?_
  refine wpList_nil ?_
  refine hK18 _ _ ?_
  refine wp_seq_k fun K23 hK23 => ?_
  refine wp_seq_k fun K59 hK59 => ?_
  have hJ1 : ∀ (p76 : Bool) (a : Act) (w : World), Sl 222 [(0, p0_codev), (3, (fdp b17 0)), (4, (int i64 r15.2.2)), (5, v22), (76, (Value.bool p76))] a → Mem Nob w0 w [(false, rd p0_codev (List.map (int IntKind.u8) p0_code)), (true, bx b17 26 [(int i64 r15.1), v16]), (true, ow 3 v16 (List.map (int i64) r15.2.1)), (true, ow 3 v22 (List.map (int i64) r21)), (false, tabR Tryd.prog tabN)] → S_laws_FnSets_j1 F p0_code r15 r21 p76 = some r → K59 a w := by
   intro p76 a w hS hM hF
   unfold S_laws_FnSets_j1 at hF
   refine hK59 _ _ ?_
   rcases ite_some hF with ⟨hc, hF⟩ | ⟨hc, hF⟩
   ·refine cond_t hS rfl hc ?_
    refine wp_seq_k fun K77 hK77 => ?_
    refine wp_region_lit ?_
    refine st_val hS rfl rfl (by decide) (rv_assign (hS.ev rfl)) fun a hS => ?_
    refine wpList_nil ?_
    refine hK77 _ _ ?_
    have hS : Sl 222 [(2, (Value.bool false))] a := hS.sub (sub_cons rfl sub_nil)
    have hM := hM.pick [4] (by decide) rfl
    refine wp_ret ?_
    cases hF
    exact hQr _ _ (r_1 hS rfl rfl ⟨rfl, hM.pick [] (by decide) rfl⟩)
   ·refine cond_f hS rfl hc ?_
    refine wp_skip ?_
    refine hK23 _ _ ?_
    refine wp_seq_k fun K78 hK78 => ?_
    refine wp_region_lit ?_
    refine st_val hS rfl rfl (by decide) (rv_assign (hS.ev rfl)) fun a hS => ?_
    refine wpList_nil ?_
    refine hK78 _ _ ?_
    refine wp_seq_k fun K79 hK79 => ?_
    have hJ2 : ∀ (x135 : Int) (a : Act) (w : World), Sl 222 [(0, p0_codev), (3, (fdp b17 0)), (4, (int i64 r15.2.2)), (6, (int i64 x135))] a → Mem Nob w0 w [(false, rd p0_codev (List.map (int IntKind.u8) p0_code)), (true, bx b17 26 [(int i64 r15.1), v16]), (true, ow 3 v16 (List.map (int i64) r15.2.1)), (false, tabR Tryd.prog tabN)] → S_laws_FnSets_j2 F p0_code r15 x135 = some r → K79 a w := by
     intro x135 a w hS hM hF
     unfold S_laws_FnSets_j2 at hF
     refine hK79 _ _ ?_
     refine wp_seq_k fun K136 hK136 => ?_
     refine wp_seq_k fun K142 hK142 => ?_
     have hJ3 : ∀ (p144 : Bool) (a : Act) (w : World), Sl 222 [(0, p0_codev), (109, (Value.bool p144))] a → Mem Nob w0 w [(false, rd p0_codev (List.map (int IntKind.u8) p0_code)), (false, tabR Tryd.prog tabN)] → S_laws_FnSets_j3 F p0_code p144 = some r → K142 a w := by
      intro p144 a w hS hM hF
      unfold S_laws_FnSets_j3 at hF
      refine hK142 _ _ ?_
      rcases ite_some hF with ⟨hc, hF⟩ | ⟨hc, hF⟩
      ·refine cond_t hS rfl hc ?_
       refine wp_seq_k fun K145 hK145 => ?_
       refine wp_region_lit ?_
       refine st_val hS rfl rfl (by decide) (rv_assign (hS.ev rfl)) fun a hS => ?_
       refine wpList_nil ?_
       refine hK145 _ _ ?_
       refine wp_ret ?_
       cases hF
       exact hQr _ _ (r_1 hS rfl rfl ⟨rfl, hM.pick [] (by decide) rfl⟩)
      ·refine cond_f hS rfl hc ?_
       refine wp_skip ?_
       refine hK136 _ _ ?_
       refine wp_seq_k fun K146 hK146 => ?_
       refine wp_region_lit ?_
       refine st_val hS rfl rfl (by decide) (rv_move (hS.ev rfl)) fun a hS => ?_
       obtain ⟨r150, hr, hF⟩ := bind_some hF
       refine st_wp hS rfl (wp_call hS rfl rfl (by decide) fn_ok_20 rfl (c_spec_DrawIsClique F p0_code p0_codev hr _ (hM.get 0 rfl)) fun v w a hK hS => ?_)
       obtain ⟨v151, rfl, hN⟩ := hK
       have hM := hM.add hN rfl
       refine st_val hS rfl rfl (by decide) (rv_move (hS.ev rfl)) fun a hS => ?_
       refine st_val hS rfl rfl (by decide) (rv_extract (hS.ev rfl) rfl) fun a hS => ?_
       refine st_val hS rfl rfl (by decide) (rv_extract (hS.ev rfl) rfl) fun a hS => ?_
       obtain ⟨b152, w, hr, hM⟩ := hM.allocE (ρ := a.eval) (dst := some 8) (ty := _) (pos := _) (af := _) (gd := _) (T := 26) (P := Tryd.prog) [(int i64 0), (Value.slice none 0 0)] ty_zr_26 rfl
       refine st_val hS rfl rfl (by decide) hr fun a hS => ?_
       have hM := hM.addNil 3
       have hM := hM.pick [1, 0, 2, 3, 4] (by decide) rfl
       obtain ⟨w, hr, hM⟩ := hM.st_agg (us := [(int i64 r150.1), v151]) (ρ := a.eval) (dst := none) (ty := _) (pos := _) (af := _) (gd := _) (x := .tmp 8) (y := .tmp 113) (hS.ev rfl) (hS.ev rfl) ty_sz_26 (all1_cons rfl (all1_cons (rd_one (rd_of_ow (hM.get 2 rfl))) all1_nil)) rfl
       refine st_unit hS rfl rfl hr ?_
       refine st_val hS rfl rfl (by decide) (rv_assign (hS.ev rfl)) fun a hS => ?_
       refine wpList_nil ?_
       refine hK146 _ _ ?_
       refine wp_seq_k fun K153 hK153 => ?_
       refine wp_region_lit ?_
       refine st_val hS rfl rfl (by decide) (rv_load_agg (hS.ev rfl) ty_ag_26 (hM.get 0 rfl) ty_sz_26) fun a hS => ?_
       obtain ⟨r157, hr, hF⟩ := bind_some hF
       refine st_wp hS rfl (wp_call hS rfl rfl (by decide) fn_ok_21 rfl (c_spec_ComplementOf F r150.1 r150.2.1 v151 hr _ (rd_of_ow (hM.get 2 rfl))) fun v w a hK hS => ?_)
       obtain ⟨v158, rfl, hN⟩ := hK
       have hM := hM.add hN rfl
       refine st_val hS rfl rfl (by decide) (rv_move (hS.ev rfl)) fun a hS => ?_
       refine st_val hS rfl rfl (by decide) (rv_extract (hS.ev rfl) rfl) fun a hS => ?_
       refine st_val hS rfl rfl (by decide) (rv_extract (hS.ev rfl) rfl) fun a hS => ?_
       obtain ⟨b159, w, hr, hM⟩ := hM.allocE (ρ := a.eval) (dst := some 10) (ty := _) (pos := _) (af := _) (gd := _) (T := 26) (P := Tryd.prog) [(int i64 0), (Value.slice none 0 0)] ty_zr_26 rfl
       refine st_val hS rfl rfl (by decide) hr fun a hS => ?_
       have hM := hM.addNil 3
       have hM := hM.pick [1, 0, 2, 3, 4, 5, 6, 7] (by decide) rfl
       obtain ⟨w, hr, hM⟩ := hM.st_agg (us := [(int i64 r157.1), v158]) (ρ := a.eval) (dst := none) (ty := _) (pos := _) (af := _) (gd := _) (x := .tmp 10) (y := .tmp 118) (hS.ev rfl) (hS.ev rfl) ty_sz_26 (all1_cons rfl (all1_cons (rd_one (rd_of_ow (hM.get 2 rfl))) all1_nil)) rfl
       refine st_unit hS rfl rfl hr ?_
       refine st_val hS rfl rfl (by decide) (rv_assign (hS.ev rfl)) fun a hS => ?_
       refine wpList_nil ?_
       refine hK153 _ _ ?_
       have hS : Sl 222 [(0, p0_codev), (8, (fdp b152 0)), (9, (int i64 r150.2.2)), (10, (fdp b159 0)), (11, (Value.bool r157.2.2))] a := hS.sub (sub_cons rfl (sub_cons rfl (sub_cons rfl (sub_cons rfl (sub_cons rfl sub_nil)))))
       have hM := hM.pick [0, 2, 3, 5, 6, 7] (by decide) rfl
       refine wp_seq_k fun K160 hK160 => ?_
       refine wp_region_lit ?_
       refine st_val hS rfl rfl (by decide) (rv_load_agg (hS.ev rfl) ty_ag_26 (hM.get 2 rfl) ty_sz_26) fun a hS => ?_
       refine st_val hS rfl rfl (by decide) (rv_move (hS.ev rfl)) fun a hS => ?_
       obtain ⟨r164, hr, hF⟩ := bind_some hF
       refine st_wp hS rfl (wp_call hS rfl rfl (by decide) fn_ok_22 rfl (c_impl_InducedOn F r150.1 r150.2.1 r150.2.2 v151 hr _ (rd_of_ow (hM.get 3 rfl))) fun v w a hK hS => ?_)
       obtain ⟨v165, rfl, hN⟩ := hK
       have hM := hM.add hN rfl
       refine st_val hS rfl rfl (by decide) (rv_move (hS.ev rfl)) fun a hS => ?_
       refine st_val hS rfl rfl (by decide) (rv_extract (hS.ev rfl) rfl) fun a hS => ?_
       refine st_val hS rfl rfl (by decide) (rv_extract (hS.ev rfl) rfl) fun a hS => ?_
       obtain ⟨b166, w, hr, hM⟩ := hM.allocE (ρ := a.eval) (dst := some 12) (ty := _) (pos := _) (af := _) (gd := _) (T := 26) (P := Tryd.prog) [(int i64 0), (Value.slice none 0 0)] ty_zr_26 rfl
       refine st_val hS rfl rfl (by decide) hr fun a hS => ?_
       have hM := hM.addNil 3
       have hM := hM.pick [1, 0, 2, 3, 4, 5, 6, 7, 8] (by decide) rfl
       obtain ⟨w, hr, hM⟩ := hM.st_agg (us := [(int i64 r164.1), v165]) (ρ := a.eval) (dst := none) (ty := _) (pos := _) (af := _) (gd := _) (x := .tmp 12) (y := .tmp 124) (hS.ev rfl) (hS.ev rfl) ty_sz_26 (all1_cons rfl (all1_cons (rd_one (rd_of_ow (hM.get 2 rfl))) all1_nil)) rfl
       refine st_unit hS rfl rfl hr ?_
       refine st_val hS rfl rfl (by decide) (rv_assign (hS.ev rfl)) fun a hS => ?_
       refine wpList_nil ?_
       refine hK160 _ _ ?_
       refine wp_seq_k fun K167 hK167 => ?_
       refine wp_region_lit ?_
       refine st_val hS rfl rfl (by decide) (rv_load_agg (hS.ev rfl) ty_ag_26 (hM.get 5 rfl) ty_sz_26) fun a hS => ?_
       refine st_val hS rfl rfl (by decide) (rv_move (hS.ev rfl)) fun a hS => ?_
       obtain ⟨r171, hr, hF⟩ := bind_some hF
       refine st_wp hS rfl (wp_call hS rfl rfl (by decide) fn_ok_23 rfl (c_spec_InducedOn F r150.1 r150.2.1 r150.2.2 v151 hr _ (rd_of_ow (hM.get 6 rfl))) fun v w a hK hS => ?_)
       obtain ⟨v172, rfl, hN⟩ := hK
       have hM := hM.add hN rfl
       refine st_val hS rfl rfl (by decide) (rv_move (hS.ev rfl)) fun a hS => ?_
       refine st_val hS rfl rfl (by decide) (rv_extract (hS.ev rfl) rfl) fun a hS => ?_
       refine st_val hS rfl rfl (by decide) (rv_extract (hS.ev rfl) rfl) fun a hS => ?_
       obtain ⟨b173, w, hr, hM⟩ := hM.allocE (ρ := a.eval) (dst := some 14) (ty := _) (pos := _) (af := _) (gd := _) (T := 26) (P := Tryd.prog) [(int i64 0), (Value.slice none 0 0)] ty_zr_26 rfl
       refine st_val hS rfl rfl (by decide) hr fun a hS => ?_
       have hM := hM.addNil 3
       have hM := hM.pick [1, 0, 2, 3, 4, 5, 6, 7, 8, 9, 10, 11] (by decide) rfl
       obtain ⟨w, hr, hM⟩ := hM.st_agg (us := [(int i64 r171.1), v172]) (ρ := a.eval) (dst := none) (ty := _) (pos := _) (af := _) (gd := _) (x := .tmp 14) (y := .tmp 130) (hS.ev rfl) (hS.ev rfl) ty_sz_26 (all1_cons rfl (all1_cons (rd_one (rd_of_ow (hM.get 2 rfl))) all1_nil)) rfl
       refine st_unit hS rfl rfl hr ?_
       refine st_val hS rfl rfl (by decide) (rv_assign (hS.ev rfl)) fun a hS => ?_
       refine wpList_nil ?_
       refine hK167 _ _ ?_
       have hS : Sl 222 [(0, p0_codev), (8, (fdp b152 0)), (9, (int i64 r150.2.2)), (10, (fdp b159 0)), (11, (Value.bool r157.2.2)), (12, (fdp b166 0)), (13, (Value.bool r164.2.2)), (14, (fdp b173 0)), (15, (Value.bool r171.2.2))] a := hS.sub (sub_cons rfl (sub_cons rfl (sub_cons rfl (sub_cons rfl (sub_cons rfl (sub_cons rfl (sub_cons rfl (sub_cons rfl (sub_cons rfl sub_nil)))))))))
       have hM := hM.pick [0, 2, 3, 5, 6, 7, 8, 9, 10, 11] (by decide) rfl
       refine wp_seq_k fun K174 hK174 => ?_
       refine wp_seq_k fun K210 hK210 => ?_
       have hJ4 : ∀ (p227 : Bool) (a : Act) (w : World), Sl 222 [(0, p0_codev), (190, (Value.bool p227))] a → Mem Nob w0 w [(false, rd p0_codev (List.map (int IntKind.u8) p0_code)), (false, tabR Tryd.prog tabN)] → S_laws_FnSets_j4 F p0_code p227 = some r → K210 a w := by
        intro p227 a w hS hM hF
        unfold S_laws_FnSets_j4 at hF
        refine hK210 _ _ ?_
        rcases ite_some hF with ⟨hc, hF⟩ | ⟨hc, hF⟩
        ·refine cond_t hS rfl hc ?_
         refine wp_seq_k fun K228 hK228 => ?_
         refine wp_region_lit ?_
         refine st_val hS rfl rfl (by decide) (rv_assign (hS.ev rfl)) fun a hS => ?_
         refine wpList_nil ?_
         refine hK228 _ _ ?_
         refine wp_ret ?_
         cases hF
         exact hQr _ _ (r_1 hS rfl rfl ⟨rfl, hM.pick [] (by decide) rfl⟩)
        ·refine cond_f hS rfl hc ?_
         refine wp_skip ?_
         refine hK174 _ _ ?_
         refine wp_seq_k fun K229 hK229 => ?_
         refine wp_region_lit ?_
         refine st_val hS rfl rfl (by decide) (rv_move (hS.ev rfl)) fun a hS => ?_
         obtain ⟨r232, hr, hF⟩ := bind_some hF
         refine st_wp hS rfl (wp_call hS rfl rfl (by decide) fn_ok_30 rfl (c_spec_DrawSetOf F p0_code p0_codev hr _ (hM.get 0 rfl)) fun v233 w a hK hS => ?_)
         have hN := hK
         have hM := hM.add hN rfl
         refine st_val hS rfl rfl (by decide) (rv_assign (hS.ev rfl)) fun a hS => ?_
         refine wpList_nil ?_
         refine hK229 _ _ ?_
         refine wp_seq_k fun K234 hK234 => ?_
         refine wp_region_lit ?_
         refine st_val hS rfl rfl (by decide) (rv_move (hS.ev rfl)) fun a hS => ?_
         obtain ⟨r236, hr, hF⟩ := bind_some hF
         refine st_wp hS rfl (wp_call hS rfl rfl (by decide) fn_ok_31 rfl (c_impl_SetOf F r232 v233 hr _ (rd_of_ow (hM.get 0 rfl))) fun v w a hK hS => ?_)
         obtain ⟨rfl, hN⟩ := hK
         have hM := hM.fra hN.fr
         refine st_val hS rfl rfl (by decide) (rv_move (hS.ev rfl)) fun a hS => ?_
         refine st_val hS rfl rfl (by decide) (rv_extract (hS.ev rfl) rfl) fun a hS => ?_
         refine st_val hS rfl rfl (by decide) (rv_extract (hS.ev rfl) rfl) fun a hS => ?_
         refine st_val hS rfl rfl (by decide) (rv_assign (hS.ev rfl)) fun a hS => ?_
         refine st_val hS rfl rfl (by decide) (rv_assign (hS.ev rfl)) fun a hS => ?_
         refine wpList_nil ?_
         refine hK234 _ _ ?_
         have hS : Sl 222 [(16, v233), (17, (int i64 r236.1)), (18, (Value.bool r236.2))] a := hS.sub (sub_cons rfl (sub_cons rfl (sub_cons rfl sub_nil)))
         have hM := hM.pick [0, 2] (by decide) rfl
         refine wp_seq_k fun K237 hK237 => ?_
         refine wp_region_lit ?_
         refine st_val hS rfl rfl (by decide) (rv_move (hS.ev rfl)) fun a hS => ?_
         obtain ⟨r239, hr, hF⟩ := bind_some hF
         refine st_wp hS rfl (wp_call hS rfl rfl (by decide) fn_ok_32 rfl (c_spec_SetOf F r232 v233 hr _ (rd_of_ow (hM.get 0 rfl))) fun v w a hK hS => ?_)
         obtain ⟨rfl, hN⟩ := hK
         have hM := hM.fra hN.fr
         refine st_val hS rfl rfl (by decide) (rv_move (hS.ev rfl)) fun a hS => ?_
         refine st_val hS rfl rfl (by decide) (rv_extract (hS.ev rfl) rfl) fun a hS => ?_
         refine st_val hS rfl rfl (by decide) (rv_extract (hS.ev rfl) rfl) fun a hS => ?_
         refine st_val hS rfl rfl (by decide) (rv_assign (hS.ev rfl)) fun a hS => ?_
         refine st_val hS rfl rfl (by decide) (rv_assign (hS.ev rfl)) fun a hS => ?_
         refine wpList_nil ?_
         refine hK237 _ _ ?_
         refine wp_seq_k fun K240 hK240 => ?_
         have hJ5 : ∀ (p242 : Bool) (a : Act) (w : World), Sl 222 [(2, (Value.bool p242))] a → Mem Nob w0 w [(false, tabR Tryd.prog tabN)] → S_laws_FnSets_j5 F p242 = some r → K240 a w := by
          intro p242 a w hS hM hF
          unfold S_laws_FnSets_j5 at hF
          refine hK240 _ _ ?_
          refine wp_ret ?_
          cases hF
          exact hQr _ _ (r_1 hS rfl rfl ⟨rfl, hM.pick [] (by decide) rfl⟩)
         refine wp_region_lit ?_
         refine st_val hS rfl rfl (by decide) (rv_move (hS.ev rfl)) fun a hS => ?_
         refine st_val hS rfl rfl (by decide) (rv_move (hS.ev rfl)) fun a hS => ?_
         refine st_val hS rfl rfl (by decide) (rv_eql (hS.ev rfl) (hS.ev rfl)) fun a hS => ?_
         refine st_val hS rfl rfl (by decide) (rv_move (hS.ev rfl)) fun a hS => ?_
         rcases ite_some hF with ⟨hc, hF⟩ | ⟨hc, hF⟩
         ·have hS := hS.setb (t := 206) rfl hc
          refine st_val hS rfl rfl (by decide) (rv_move (hS.ev rfl)) fun a hS => ?_
          refine st_val hS rfl rfl (by decide) (rv_move (hS.ev rfl)) fun a hS => ?_
          refine st_val hS rfl rfl (by decide) (rv_beql Tryd.underlying4 (hS.ev rfl) (hS.ev rfl)) fun a hS => ?_
          refine st_val hS rfl rfl (by decide) (rv_pick_t (hS.ev rfl) (hS.ev rfl)) fun a hS => ?_
          refine st_val hS rfl rfl (by decide) (rv_move (hS.ev rfl)) fun a hS => ?_
          rcases ite_some hF with ⟨hc, hF⟩ | ⟨hc, hF⟩
          ·have hS := hS.setb (t := 211) rfl hc
           refine st_val hS rfl rfl (by decide) (rv_move (hS.ev rfl)) fun a hS => ?_
           refine st_val hS rfl rfl (by decide) (rv_not (hS.ev rfl)) fun a hS => ?_
           refine st_val hS rfl rfl (by decide) (rv_move (hS.ev rfl)) fun a hS => ?_
           rcases ite_some hF with ⟨hc, hF⟩ | ⟨hc, hF⟩
           ·have hS := hS.setb (t := 214) rfl hc
            refine st_skip hS rfl rfl (by decide) fun a hS => ?_
            refine st_skip hS rfl rfl (by decide) fun a hS => ?_
            refine st_skip hS rfl rfl (by decide) fun a hS => ?_
            refine st_skip hS rfl rfl (by decide) fun a hS => ?_
            refine st_skip hS rfl rfl (by decide) fun a hS => ?_
            refine st_val hS rfl rfl (by decide) (rv_pick_t (hS.ev rfl) (hS.ev rfl)) fun a hS => ?_
            refine st_val hS rfl rfl (by decide) (rv_pick_t (hS.ev rfl) (hS.ev rfl)) fun a hS => ?_
            refine st_val hS rfl rfl (by decide) (rv_assign (hS.ev rfl)) fun a hS => ?_
            refine wpList_nil ?_
            exact hJ5 true _ _ (hS.sub (sub_cons rfl sub_nil)) (hM.pick [1] (by decide) rfl) hF
           ·have hS := hS.setb (t := 214) rfl hc
            refine st_val hS rfl rfl (by decide) (rv_move (hS.ev rfl)) fun a hS => ?_
            obtain ⟨r243, hr, hF⟩ := bind_some hF
            refine st_wp hS rfl (wp_call hS rfl rfl (by decide) fn_ok_12 rfl (c_impl_CountSet F r239.1 hr _) fun v w a hK hS => ?_)
            obtain ⟨rfl, hN⟩ := hK
            have hM := hM.fra hN.fr
            refine st_val hS rfl rfl (by decide) (rv_move (hS.ev rfl)) fun a hS => ?_
            refine st_val hS rfl rfl (by decide) (rv_len_rowM Tryd.underlying24 (hS.ev rfl) (rd_of_ow (hM.get 0 rfl))) fun a hS => ?_
            refine st_val hS rfl rfl (by decide) (rv_eql (hS.ev rfl) (hS.ev rfl)) fun a hS => ?_
            refine st_val hS rfl rfl (by decide) (rv_pick_f (hS.ev rfl) (hS.ev rfl)) fun a hS => ?_
            refine st_val hS rfl rfl (by decide) (rv_pick_t (hS.ev rfl) (hS.ev rfl)) fun a hS => ?_
            refine st_val hS rfl rfl (by decide) (rv_assign (hS.ev rfl)) fun a hS => ?_
            refine wpList_nil ?_
            exact hJ5 (r243 == (r232.length : Int)) _ _ (hS.sub (sub_cons rfl sub_nil)) (hM.pick [1] (by decide) rfl) hF
          ·have hS := hS.setb (t := 211) rfl hc
           refine st_skip hS rfl rfl (by decide) fun a hS => ?_
           refine st_skip hS rfl rfl (by decide) fun a hS => ?_
           refine st_skip hS rfl rfl (by decide) fun a hS => ?_
           refine st_skip hS rfl rfl (by decide) fun a hS => ?_
           refine st_skip hS rfl rfl (by decide) fun a hS => ?_
           refine st_skip hS rfl rfl (by decide) fun a hS => ?_
           refine st_skip hS rfl rfl (by decide) fun a hS => ?_
           refine st_skip hS rfl rfl (by decide) fun a hS => ?_
           refine st_skip hS rfl rfl (by decide) fun a hS => ?_
           refine st_val hS rfl rfl (by decide) (rv_pick_f (hS.ev rfl) (hS.ev rfl)) fun a hS => ?_
           refine st_val hS rfl rfl (by decide) (rv_assign (hS.ev rfl)) fun a hS => ?_
           refine wpList_nil ?_
           exact hJ5 false _ _ (hS.sub (sub_cons rfl sub_nil)) (hM.pick [1] (by decide) rfl) hF
         ·have hS := hS.setb (t := 206) rfl hc
          refine st_skip hS rfl rfl (by decide) fun a hS => ?_
          refine st_skip hS rfl rfl (by decide) fun a hS => ?_
          refine st_skip hS rfl rfl (by decide) fun a hS => ?_
          refine st_val hS rfl rfl (by decide) (rv_pick_f (hS.ev rfl) (hS.ev rfl)) fun a hS => ?_
          refine st_val hS rfl rfl (by decide) (rv_move (hS.ev rfl)) fun a hS => ?_
          refine st_skip hS rfl rfl (by decide) fun a hS => ?_
          refine st_skip hS rfl rfl (by decide) fun a hS => ?_
          refine st_skip hS rfl rfl (by decide) fun a hS => ?_
          refine st_skip hS rfl rfl (by decide) fun a hS => ?_
          refine st_skip hS rfl rfl (by decide) fun a hS => ?_
          refine st_skip hS rfl rfl (by decide) fun a hS => ?_
          refine st_skip hS rfl rfl (by decide) fun a hS => ?_
          refine st_skip hS rfl rfl (by decide) fun a hS => ?_
          refine st_skip hS rfl rfl (by decide) fun a hS => ?_
          refine st_val hS rfl rfl (by decide) (rv_pick_f (hS.ev rfl) (hS.ev rfl)) fun a hS => ?_
          refine st_val hS rfl rfl (by decide) (rv_assign (hS.ev rfl)) fun a hS => ?_
          refine wpList_nil ?_
          exact hJ5 false _ _ (hS.sub (sub_cons rfl sub_nil)) (hM.pick [1] (by decide) rfl) hF
       refine an_startB 59 Nob ty_mixed (by kernel_rfl) fun w hf => ?_
       have hM := hM.fra hf
       have hB := hM
       have hM := hB.reg0
       refine tkB hS 0 1 (by as_aux_lemma => kernel_rfl) rfl rfl rfl hQp rfl (fun w' hC' => (rv_load_agg (hS.ev rfl) ty_ag_26 ((hB.fra hC').get 6 rfl) ty_sz_26)) hM.fr fun a hS => ?_
       refine tkB hS 1 3 (by as_aux_lemma => kernel_rfl) rfl rfl rfl hQp rfl (fun w' hC' => (rv_move (hS.ev rfl))) hM.fr fun a hS => ?_
       refine tkB hS 3 11 (by as_aux_lemma => kernel_rfl) rfl rfl rfl hQp rfl (fun w' hC' => (rv_load_agg (hS.ev rfl) ty_ag_26 ((hB.fra hC').get 6 rfl) ty_sz_26)) hM.fr fun a hS => ?_
       refine tkB hS 4 27 (by as_aux_lemma => kernel_rfl) rfl rfl rfl hQp rfl (fun w' hC' => (rv_move (hS.ev rfl))) hM.fr fun a hS => ?_
       obtain ⟨r244, hr, hF⟩ := bind_some hF
       refine an_oneB hS (i := 2) 31 (by as_aux_lemma => kernel_rfl) rfl (by as_aux_lemma => kernel_rfl) rfl ?_
       refine wp_call hS rfl rfl (by decide) fn_ok_24 rfl (c_impl_IsClique F r150.1 r150.2.1 r150.2.2 v151 hr _ (rd_of_ow (hM.get 7 rfl))) fun v w a hK hS => ?_
       obtain ⟨rfl, hN⟩ := hK
       have hM := hM.fra hN.fr
       refine ⟨hM.fr, ?_⟩
       obtain ⟨r245, hr, hF⟩ := bind_some hF
       refine an_oneB hS (i := 5) 63 (by as_aux_lemma => kernel_rfl) rfl (by as_aux_lemma => kernel_rfl) rfl ?_
       refine wp_call hS rfl rfl (by decide) fn_ok_25 rfl (c_spec_IsClique F r150.1 r150.2.1 r150.2.2 v151 hr _ (rd_of_ow (hM.get 7 rfl))) fun v w a hK hS => ?_
       obtain ⟨rfl, hN⟩ := hK
       have hM := hM.fra hN.fr
       refine ⟨hM.fr, ?_⟩
       refine tkB hS 6 127 (by as_aux_lemma => kernel_rfl) rfl rfl rfl hQp rfl (fun w' hC' => (rv_bneq Tryd.underlying4 (hS.ev rfl) (hS.ev rfl))) hM.fr fun a hS => ?_
       refine tkB hS 7 255 (by as_aux_lemma => kernel_rfl) rfl rfl rfl hQp rfl (fun w' hC' => (rv_move (hS.ev rfl))) hM.fr fun a hS => ?_
       rcases ite_some hF with ⟨hc, hF⟩ | ⟨hc, hF⟩
       ·have hS := hS.setb (t := 139) rfl hc
        refine skB hS [8, 9, 10, 11, 12, 13, 14] [140, 141, 142, 143, 144, 145, 146] 32767 44 rfl (by as_aux_lemma => kernel_rfl) hQp hM.fr fun a hS => ?_
        refine tkB hS 15 65535 (by as_aux_lemma => kernel_rfl) rfl rfl rfl hQp rfl (fun w' hC' => (rv_pick_t (hS.ev rfl) (hS.ev rfl))) hM.fr fun a hS => ?_
        refine tkB hS 16 131071 (by as_aux_lemma => kernel_rfl) rfl rfl rfl hQp rfl (fun w' hC' => (rv_move (hS.ev rfl))) hM.fr fun a hS => ?_
        refine skB hS [17, 18, 19, 20, 21, 22, 23, 24, 25, 26] [149, 150, 151, 152, 153, 154, 155, 156, 157, 158] 134217727 32 rfl (by as_aux_lemma => kernel_rfl) hQp hM.fr fun a hS => ?_
        refine tkB hS 27 268435455 (by as_aux_lemma => kernel_rfl) rfl rfl rfl hQp rfl (fun w' hC' => (rv_pick_t (hS.ev rfl) (hS.ev rfl))) hM.fr fun a hS => ?_
        refine tkB hS 28 536870911 (by as_aux_lemma => kernel_rfl) rfl rfl rfl hQp rfl (fun w' hC' => (rv_move (hS.ev rfl))) hM.fr fun a hS => ?_
        refine skB hS [29, 30, 31] [161, 162, 163] 4294967295 27 rfl (by as_aux_lemma => kernel_rfl) hQp hM.fr fun a hS => ?_
        refine tkB hS 32 8589934591 (by as_aux_lemma => kernel_rfl) rfl rfl rfl hQp rfl (fun w' hC' => (rv_pick_t (hS.ev rfl) (hS.ev rfl))) hM.fr fun a hS => ?_
        refine tkB hS 33 17179869183 (by as_aux_lemma => kernel_rfl) rfl rfl rfl hQp rfl (fun w' hC' => (rv_move (hS.ev rfl))) hM.fr fun a hS => ?_
        refine skB hS [34, 35, 36, 37] [166, 167, 168, 169] 274877906943 21 rfl (by as_aux_lemma => kernel_rfl) hQp hM.fr fun a hS => ?_
        refine tkB hS 38 549755813887 (by as_aux_lemma => kernel_rfl) rfl rfl rfl hQp rfl (fun w' hC' => (rv_pick_t (hS.ev rfl) (hS.ev rfl))) hM.fr fun a hS => ?_
        refine tkB hS 39 1099511627775 (by as_aux_lemma => kernel_rfl) rfl rfl rfl hQp rfl (fun w' hC' => (rv_move (hS.ev rfl))) hM.fr fun a hS => ?_
        refine skB hS [40, 41, 42, 43, 44, 45, 46, 47, 48, 49, 50, 51, 52, 53, 54, 55, 56, 57] [172, 173, 174, 175, 176, 177, 178, 179, 180, 181, 182, 183, 184, 185, 186, 187, 188, 189] 288230376151711743 1 rfl (by as_aux_lemma => kernel_rfl) hQp hM.fr fun a hS => ?_
        refine tkB hS 58 576460752303423487 (by as_aux_lemma => kernel_rfl) rfl rfl rfl hQp rfl (fun w' hC' => (rv_pick_t (hS.ev rfl) (hS.ev rfl))) hM.fr fun a hS => ?_
        refine an_done (by as_aux_lemma => kernel_rfl) ?_
        have hN := hM.pick [] (by decide) rfl
        have hM := Mem.callo0 hB hN rfl
        exact hJ4 true _ _ (hS.sub (sub_cons rfl (sub_cons rfl sub_nil))) (hM.pick [8, 9] (by decide) rfl) hF
       ·have hS := hS.setb (t := 139) rfl hc
        refine tkB hS 8 511 (by as_aux_lemma => kernel_rfl) rfl rfl rfl hQp rfl (fun w' hC' => (rv_load_agg (hS.ev rfl) ty_ag_26 ((hB.fra hC').get 6 rfl) ty_sz_26)) hM.fr fun a hS => ?_
        refine tkB hS 9 1023 (by as_aux_lemma => kernel_rfl) rfl rfl rfl hQp rfl (fun w' hC' => (rv_move (hS.ev rfl))) hM.fr fun a hS => ?_
        refine tkB hS 11 3071 (by as_aux_lemma => kernel_rfl) rfl rfl rfl hQp rfl (fun w' hC' => (rv_load_agg (hS.ev rfl) ty_ag_26 ((hB.fra hC').get 6 rfl) ty_sz_26)) hM.fr fun a hS => ?_
        refine tkB hS 12 7167 (by as_aux_lemma => kernel_rfl) rfl rfl rfl hQp rfl (fun w' hC' => (rv_move (hS.ev rfl))) hM.fr fun a hS => ?_
        obtain ⟨r246, hr, hF⟩ := bind_some hF
        refine an_oneB hS (i := 10) 8191 (by as_aux_lemma => kernel_rfl) rfl (by as_aux_lemma => kernel_rfl) rfl ?_
        refine wp_call hS rfl rfl (by decide) fn_ok_26 rfl (c_impl_IsIndependent F r150.1 r150.2.1 r150.2.2 v151 hr _ (rd_of_ow (hM.get 7 rfl))) fun v w a hK hS => ?_
        obtain ⟨rfl, hN⟩ := hK
        have hM := hM.fra hN.fr
        refine ⟨hM.fr, ?_⟩
        obtain ⟨r247, hr, hF⟩ := bind_some hF
        refine an_oneB hS (i := 13) 16383 (by as_aux_lemma => kernel_rfl) rfl (by as_aux_lemma => kernel_rfl) rfl ?_
        refine wp_call hS rfl rfl (by decide) fn_ok_27 rfl (c_spec_IsIndependent F r150.1 r150.2.1 r150.2.2 v151 hr _ (rd_of_ow (hM.get 7 rfl))) fun v w a hK hS => ?_
        obtain ⟨rfl, hN⟩ := hK
        have hM := hM.fra hN.fr
        refine ⟨hM.fr, ?_⟩
        refine tkB hS 14 32767 (by as_aux_lemma => kernel_rfl) rfl rfl rfl hQp rfl (fun w' hC' => (rv_bneq Tryd.underlying4 (hS.ev rfl) (hS.ev rfl))) hM.fr fun a hS => ?_
        refine tkB hS 15 65535 (by as_aux_lemma => kernel_rfl) rfl rfl rfl hQp rfl (fun w' hC' => (rv_pick_f (hS.ev rfl) (hS.ev rfl))) hM.fr fun a hS => ?_
        refine tkB hS 16 131071 (by as_aux_lemma => kernel_rfl) rfl rfl rfl hQp rfl (fun w' hC' => (rv_move (hS.ev rfl))) hM.fr fun a hS => ?_
        rcases ite_some hF with ⟨hc, hF⟩ | ⟨hc, hF⟩
        ·have hS := hS.setb (t := 148) rfl hc
         refine skB hS [17, 18, 19, 20, 21, 22, 23, 24, 25, 26] [149, 150, 151, 152, 153, 154, 155, 156, 157, 158] 134217727 32 rfl (by as_aux_lemma => kernel_rfl) hQp hM.fr fun a hS => ?_
         refine tkB hS 27 268435455 (by as_aux_lemma => kernel_rfl) rfl rfl rfl hQp rfl (fun w' hC' => (rv_pick_t (hS.ev rfl) (hS.ev rfl))) hM.fr fun a hS => ?_
         refine tkB hS 28 536870911 (by as_aux_lemma => kernel_rfl) rfl rfl rfl hQp rfl (fun w' hC' => (rv_move (hS.ev rfl))) hM.fr fun a hS => ?_
         refine skB hS [29, 30, 31] [161, 162, 163] 4294967295 27 rfl (by as_aux_lemma => kernel_rfl) hQp hM.fr fun a hS => ?_
         refine tkB hS 32 8589934591 (by as_aux_lemma => kernel_rfl) rfl rfl rfl hQp rfl (fun w' hC' => (rv_pick_t (hS.ev rfl) (hS.ev rfl))) hM.fr fun a hS => ?_
         refine tkB hS 33 17179869183 (by as_aux_lemma => kernel_rfl) rfl rfl rfl hQp rfl (fun w' hC' => (rv_move (hS.ev rfl))) hM.fr fun a hS => ?_
         refine skB hS [34, 35, 36, 37] [166, 167, 168, 169] 274877906943 21 rfl (by as_aux_lemma => kernel_rfl) hQp hM.fr fun a hS => ?_
         refine tkB hS 38 549755813887 (by as_aux_lemma => kernel_rfl) rfl rfl rfl hQp rfl (fun w' hC' => (rv_pick_t (hS.ev rfl) (hS.ev rfl))) hM.fr fun a hS => ?_
         refine tkB hS 39 1099511627775 (by as_aux_lemma => kernel_rfl) rfl rfl rfl hQp rfl (fun w' hC' => (rv_move (hS.ev rfl))) hM.fr fun a hS => ?_
         refine skB hS [40, 41, 42, 43, 44, 45, 46, 47, 48, 49, 50, 51, 52, 53, 54, 55, 56, 57] [172, 173, 174, 175, 176, 177, 178, 179, 180, 181, 182, 183, 184, 185, 186, 187, 188, 189] 288230376151711743 1 rfl (by as_aux_lemma => kernel_rfl) hQp hM.fr fun a hS => ?_
         refine tkB hS 58 576460752303423487 (by as_aux_lemma => kernel_rfl) rfl rfl rfl hQp rfl (fun w' hC' => (rv_pick_t (hS.ev rfl) (hS.ev rfl))) hM.fr fun a hS => ?_
         refine an_done (by as_aux_lemma => kernel_rfl) ?_
         have hN := hM.pick [] (by decide) rfl
         have hM := Mem.callo0 hB hN rfl
         exact hJ4 true _ _ (hS.sub (sub_cons rfl (sub_cons rfl sub_nil))) (hM.pick [8, 9] (by decide) rfl) hF
        ·have hS := hS.setb (t := 148) rfl hc
         refine tkB hS 17 262143 (by as_aux_lemma => kernel_rfl) rfl rfl rfl hQp rfl (fun w' hC' => (rv_move (hS.ev rfl))) hM.fr fun a hS => ?_
         refine tkB hS 18 524287 (by as_aux_lemma => kernel_rfl) rfl rfl rfl hQp rfl (fun w' hC' => (rv_move (hS.ev rfl))) hM.fr fun a hS => ?_
         rcases ite_some hF with ⟨hc, hF⟩ | ⟨hc, hF⟩
         ·have hS := hS.setb (t := 150) rfl hc
          refine tkB hS 19 1048575 (by as_aux_lemma => kernel_rfl) rfl rfl rfl hQp rfl (fun w' hC' => (rv_load_agg (hS.ev rfl) ty_ag_26 ((hB.fra hC').get 6 rfl) ty_sz_26)) hM.fr fun a hS => ?_
          refine tkB hS 20 2097151 (by as_aux_lemma => kernel_rfl) rfl rfl rfl hQp rfl (fun w' hC' => (rv_move (hS.ev rfl))) hM.fr fun a hS => ?_
          refine tkB hS 22 6291455 (by as_aux_lemma => kernel_rfl) rfl rfl rfl hQp rfl (fun w' hC' => (rv_load_agg (hS.ev rfl) ty_ag_26 ((hB.fra hC').get 4 rfl) ty_sz_26)) hM.fr fun a hS => ?_
          refine tkB hS 23 14680063 (by as_aux_lemma => kernel_rfl) rfl rfl rfl hQp rfl (fun w' hC' => (rv_move (hS.ev rfl))) hM.fr fun a hS => ?_
          obtain ⟨r248, hr, hF⟩ := bind_some hF
          refine an_oneB hS (i := 21) 16777215 (by as_aux_lemma => kernel_rfl) rfl (by as_aux_lemma => kernel_rfl) rfl ?_
          refine wp_call hS rfl rfl (by decide) fn_ok_24 rfl (c_impl_IsClique F r150.1 r150.2.1 r150.2.2 v151 hr _ (rd_of_ow (hM.get 7 rfl))) fun v w a hK hS => ?_
          obtain ⟨rfl, hN⟩ := hK
          have hM := hM.fra hN.fr
          refine ⟨hM.fr, ?_⟩
          obtain ⟨r249, hr, hF⟩ := bind_some hF
          refine an_oneB hS (i := 24) 33554431 (by as_aux_lemma => kernel_rfl) rfl (by as_aux_lemma => kernel_rfl) rfl ?_
          refine wp_call hS rfl rfl (by decide) fn_ok_26 rfl (c_impl_IsIndependent F r157.1 r157.2.1 r150.2.2 v158 hr _ (rd_of_ow (hM.get 5 rfl))) fun v w a hK hS => ?_
          obtain ⟨rfl, hN⟩ := hK
          have hM := hM.fra hN.fr
          refine ⟨hM.fr, ?_⟩
          refine tkB hS 25 67108863 (by as_aux_lemma => kernel_rfl) rfl rfl rfl hQp rfl (fun w' hC' => (rv_bneq Tryd.underlying4 (hS.ev rfl) (hS.ev rfl))) hM.fr fun a hS => ?_
          refine tkB hS 26 134217727 (by as_aux_lemma => kernel_rfl) rfl rfl rfl hQp rfl (fun w' hC' => (rv_pick_t (hS.ev rfl) (hS.ev rfl))) hM.fr fun a hS => ?_
          refine tkB hS 27 268435455 (by as_aux_lemma => kernel_rfl) rfl rfl rfl hQp rfl (fun w' hC' => (rv_pick_f (hS.ev rfl) (hS.ev rfl))) hM.fr fun a hS => ?_
          refine tkB hS 28 536870911 (by as_aux_lemma => kernel_rfl) rfl rfl rfl hQp rfl (fun w' hC' => (rv_move (hS.ev rfl))) hM.fr fun a hS => ?_
          rcases ite_some hF with ⟨hc, hF⟩ | ⟨hc, hF⟩
          ·have hS := hS.setb (t := 160) rfl hc
           refine skB hS [29, 30, 31] [161, 162, 163] 4294967295 27 rfl (by as_aux_lemma => kernel_rfl) hQp hM.fr fun a hS => ?_
           refine tkB hS 32 8589934591 (by as_aux_lemma => kernel_rfl) rfl rfl rfl hQp rfl (fun w' hC' => (rv_pick_t (hS.ev rfl) (hS.ev rfl))) hM.fr fun a hS => ?_
           refine tkB hS 33 17179869183 (by as_aux_lemma => kernel_rfl) rfl rfl rfl hQp rfl (fun w' hC' => (rv_move (hS.ev rfl))) hM.fr fun a hS => ?_
           refine skB hS [34, 35, 36, 37] [166, 167, 168, 169] 274877906943 21 rfl (by as_aux_lemma => kernel_rfl) hQp hM.fr fun a hS => ?_
           refine tkB hS 38 549755813887 (by as_aux_lemma => kernel_rfl) rfl rfl rfl hQp rfl (fun w' hC' => (rv_pick_t (hS.ev rfl) (hS.ev rfl))) hM.fr fun a hS => ?_
           refine tkB hS 39 1099511627775 (by as_aux_lemma => kernel_rfl) rfl rfl rfl hQp rfl (fun w' hC' => (rv_move (hS.ev rfl))) hM.fr fun a hS => ?_
           refine skB hS [40, 41, 42, 43, 44, 45, 46, 47, 48, 49, 50, 51, 52, 53, 54, 55, 56, 57] [172, 173, 174, 175, 176, 177, 178, 179, 180, 181, 182, 183, 184, 185, 186, 187, 188, 189] 288230376151711743 1 rfl (by as_aux_lemma => kernel_rfl) hQp hM.fr fun a hS => ?_
           refine tkB hS 58 576460752303423487 (by as_aux_lemma => kernel_rfl) rfl rfl rfl hQp rfl (fun w' hC' => (rv_pick_t (hS.ev rfl) (hS.ev rfl))) hM.fr fun a hS => ?_
           refine an_done (by as_aux_lemma => kernel_rfl) ?_
           have hN := hM.pick [] (by decide) rfl
           have hM := Mem.callo0 hB hN rfl
           exact hJ4 true _ _ (hS.sub (sub_cons rfl (sub_cons rfl sub_nil))) (hM.pick [8, 9] (by decide) rfl) hF
          ·have hS := hS.setb (t := 160) rfl hc
           refine tkB hS 29 1073741823 (by as_aux_lemma => kernel_rfl) rfl rfl rfl hQp rfl (fun w' hC' => (rv_move (hS.ev rfl))) hM.fr fun a hS => ?_
           refine tkB hS 30 2147483647 (by as_aux_lemma => kernel_rfl) rfl rfl rfl hQp rfl (fun w' hC' => (rv_move (hS.ev rfl))) hM.fr fun a hS => ?_
           refine tkB hS 31 4294967295 (by as_aux_lemma => kernel_rfl) rfl rfl rfl hQp rfl (fun w' hC' => (rv_bneq Tryd.underlying4 (hS.ev rfl) (hS.ev rfl))) hM.fr fun a hS => ?_
           refine tkB hS 32 8589934591 (by as_aux_lemma => kernel_rfl) rfl rfl rfl hQp rfl (fun w' hC' => (rv_pick_f (hS.ev rfl) (hS.ev rfl))) hM.fr fun a hS => ?_
           refine tkB hS 33 17179869183 (by as_aux_lemma => kernel_rfl) rfl rfl rfl hQp rfl (fun w' hC' => (rv_move (hS.ev rfl))) hM.fr fun a hS => ?_
           rcases ite_some hF with ⟨hc, hF⟩ | ⟨hc, hF⟩
           ·have hS := hS.setb (t := 165) rfl hc
            refine skB hS [34, 35, 36, 37] [166, 167, 168, 169] 274877906943 21 rfl (by as_aux_lemma => kernel_rfl) hQp hM.fr fun a hS => ?_
            refine tkB hS 38 549755813887 (by as_aux_lemma => kernel_rfl) rfl rfl rfl hQp rfl (fun w' hC' => (rv_pick_t (hS.ev rfl) (hS.ev rfl))) hM.fr fun a hS => ?_
            refine tkB hS 39 1099511627775 (by as_aux_lemma => kernel_rfl) rfl rfl rfl hQp rfl (fun w' hC' => (rv_move (hS.ev rfl))) hM.fr fun a hS => ?_
            refine skB hS [40, 41, 42, 43, 44, 45, 46, 47, 48, 49, 50, 51, 52, 53, 54, 55, 56, 57] [172, 173, 174, 175, 176, 177, 178, 179, 180, 181, 182, 183, 184, 185, 186, 187, 188, 189] 288230376151711743 1 rfl (by as_aux_lemma => kernel_rfl) hQp hM.fr fun a hS => ?_
            refine tkB hS 58 576460752303423487 (by as_aux_lemma => kernel_rfl) rfl rfl rfl hQp rfl (fun w' hC' => (rv_pick_t (hS.ev rfl) (hS.ev rfl))) hM.fr fun a hS => ?_
            refine an_done (by as_aux_lemma => kernel_rfl) ?_
            have hN := hM.pick [] (by decide) rfl
            have hM := Mem.callo0 hB hN rfl
            exact hJ4 true _ _ (hS.sub (sub_cons rfl (sub_cons rfl sub_nil))) (hM.pick [8, 9] (by decide) rfl) hF
           ·have hS := hS.setb (t := 165) rfl hc
            refine tkB hS 34 34359738367 (by as_aux_lemma => kernel_rfl) rfl rfl rfl hQp rfl (fun w' hC' => (rv_load_agg (hS.ev rfl) ty_ag_26 ((hB.fra hC').get 2 rfl) ty_sz_26)) hM.fr fun a hS => ?_
            refine tkB hS 35 68719476735 (by as_aux_lemma => kernel_rfl) rfl rfl rfl hQp rfl (fun w' hC' => (rv_load_agg (hS.ev rfl) ty_ag_26 ((hB.fra hC').get 0 rfl) ty_sz_26)) hM.fr fun a hS => ?_
            obtain ⟨r250, hr, hF⟩ := bind_some hF
            refine an_oneB hS (i := 36) 137438953471 (by as_aux_lemma => kernel_rfl) rfl (by as_aux_lemma => kernel_rfl) rfl ?_
            refine wp_call hS rfl rfl (by decide) fn_ok_28 rfl (c_spec_EqualGraphs F r164.1 r164.2.1 r171.1 r171.2.1 v165 v172 hr _ (rd_of_ow (hM.get 3 rfl)) (rd_of_ow (hM.get 1 rfl))) fun v w a hK hS => ?_
            obtain ⟨rfl, hN⟩ := hK
            have hM := hM.fra hN.fr
            refine ⟨hM.fr, ?_⟩
            refine tkB hS 37 274877906943 (by as_aux_lemma => kernel_rfl) rfl rfl rfl hQp rfl (fun w' hC' => (rv_not (hS.ev rfl))) hM.fr fun a hS => ?_
            refine tkB hS 38 549755813887 (by as_aux_lemma => kernel_rfl) rfl rfl rfl hQp rfl (fun w' hC' => (rv_pick_f (hS.ev rfl) (hS.ev rfl))) hM.fr fun a hS => ?_
            refine tkB hS 39 1099511627775 (by as_aux_lemma => kernel_rfl) rfl rfl rfl hQp rfl (fun w' hC' => (rv_move (hS.ev rfl))) hM.fr fun a hS => ?_
            rcases ite_some hF with ⟨hc, hF⟩ | ⟨hc, hF⟩
            ·have hS := hS.setb (t := 171) rfl hc
             refine skB hS [40, 41, 42, 43, 44, 45, 46, 47, 48, 49, 50, 51, 52, 53, 54, 55, 56, 57] [172, 173, 174, 175, 176, 177, 178, 179, 180, 181, 182, 183, 184, 185, 186, 187, 188, 189] 288230376151711743 1 rfl (by as_aux_lemma => kernel_rfl) hQp hM.fr fun a hS => ?_
             refine tkB hS 58 576460752303423487 (by as_aux_lemma => kernel_rfl) rfl rfl rfl hQp rfl (fun w' hC' => (rv_pick_t (hS.ev rfl) (hS.ev rfl))) hM.fr fun a hS => ?_
             refine an_done (by as_aux_lemma => kernel_rfl) ?_
             have hN := hM.pick [] (by decide) rfl
             have hM := Mem.callo0 hB hN rfl
             exact hJ4 true _ _ (hS.sub (sub_cons rfl (sub_cons rfl sub_nil))) (hM.pick [8, 9] (by decide) rfl) hF
            ·have hS := hS.setb (t := 171) rfl hc
             refine tkB hS 40 2199023255551 (by as_aux_lemma => kernel_rfl) rfl rfl rfl hQp rfl (fun w' hC' => (rv_move (hS.ev rfl))) hM.fr fun a hS => ?_
             refine tkB hS 41 4398046511103 (by as_aux_lemma => kernel_rfl) rfl rfl rfl hQp rfl (fun w' hC' => (rv_move (hS.ev rfl))) hM.fr fun a hS => ?_
             rcases ite_some hF with ⟨hc, hF⟩ | ⟨hc, hF⟩
             ·have hS := hS.setb (t := 173) rfl hc
              refine tkB hS 42 8796093022207 (by as_aux_lemma => kernel_rfl) rfl rfl rfl hQp rfl (fun w' hC' => (rv_load_agg (hS.ev rfl) ty_ag_26 ((hB.fra hC').get 6 rfl) ty_sz_26)) hM.fr fun a hS => ?_
              refine tkB hS 43 17592186044415 (by as_aux_lemma => kernel_rfl) rfl rfl rfl hQp rfl (fun w' hC' => (rv_move (hS.ev rfl))) hM.fr fun a hS => ?_
              refine tkB hS 45 52776558133247 (by as_aux_lemma => kernel_rfl) rfl rfl rfl hQp rfl (fun w' hC' => (rv_load_agg (hS.ev rfl) ty_ag_26 ((hB.fra hC').get 0 rfl) ty_sz_26)) hM.fr fun a hS => ?_
              refine tkB hS 48 334251534843903 (by as_aux_lemma => kernel_rfl) rfl rfl rfl hQp rfl (fun w' hC' => (rv_fieldAddr ty_fd_26_0 (hS.ev rfl))) hM.fr fun a hS => ?_
              refine tkB hS 49 897201488265215 (by as_aux_lemma => kernel_rfl) rfl rfl rfl hQp rfl (fun w' hC' => (rv_load_bx (hS.ev rfl) ty_ag_3 ((hB.fra hC').get 0 rfl) rfl)) hM.fr fun a hS => ?_
              refine tkB hS 50 2023101395107839 (by as_aux_lemma => kernel_rfl) rfl rfl rfl hQp rfl (fun w' hC' => (rv_fieldAddr ty_fd_26_0 (hS.ev rfl))) hM.fr fun a hS => ?_
              refine tkB hS 51 4274901208793087 (by as_aux_lemma => kernel_rfl) rfl rfl rfl hQp rfl (fun w' hC' => (rv_load_bx (hS.ev rfl) ty_ag_3 ((hB.fra hC').get 0 rfl) rfl)) hM.fr fun a hS => ?_
              refine tkB hS 52 8778500836163583 (by as_aux_lemma => kernel_rfl) rfl rfl rfl hQp rfl (fun w' hC' => (rv_sub (hS.ev rfl) (hS.ev rfl))) hM.fr fun a hS => ?_
              refine tkB hS 53 17785700090904575 (by as_aux_lemma => kernel_rfl) rfl rfl rfl hQp rfl (fun w' hC' => (rv_mul (hS.ev rfl) (hS.ev rfl))) hM.fr fun a hS => ?_
              refine tkB hS 54 35800098600386559 (by as_aux_lemma => kernel_rfl) rfl rfl rfl hQp rfl (fun w' hC' => (rv_quo (hS.ev rfl) (hS.ev rfl) (by decide))) hM.fr fun a hS => ?_
              obtain ⟨r251, hr, hF⟩ := bind_some hF
              refine an_oneB hS (i := 44) 35817690786430975 (by as_aux_lemma => kernel_rfl) rfl (by as_aux_lemma => kernel_rfl) rfl ?_
              refine wp_call hS rfl rfl (by decide) fn_ok_24 rfl (c_impl_IsClique F r150.1 r150.2.1 r150.2.2 v151 hr _ (rd_of_ow (hM.get 7 rfl))) fun v w a hK hS => ?_
              obtain ⟨rfl, hN⟩ := hK
              have hM := hM.fra hN.fr
              refine ⟨hM.fr, ?_⟩
              obtain ⟨r252, hr, hF⟩ := bind_some hF
              refine an_oneB hS (i := 46) 35888059530608639 (by as_aux_lemma => kernel_rfl) rfl (by as_aux_lemma => kernel_rfl) rfl ?_
              refine wp_call hS rfl rfl (by decide) fn_ok_29 rfl (c_impl_EdgesOf F r171.1 r171.2.1 v172 hr _ (rd_of_ow (hM.get 1 rfl))) fun v w a hK hS => ?_
              obtain ⟨v253, hs254, hv0, hN⟩ := hK
              subst v
              have hM := hM.add hN rfl
              refine ⟨hM.fr, ?_⟩
              refine tkB hS 47 36028797018963967 (by as_aux_lemma => kernel_rfl) rfl rfl rfl hQp rfl (fun w' hC' => (rv_len_mxM Tryd.underlying40 (hS.ev rfl) (hM.get 0 rfl))) hM.fr fun a hS => ?_
              refine tkB hS 55 72057594037927935 (by as_aux_lemma => kernel_rfl) rfl rfl rfl hQp rfl (fun w' hC' => (rv_eql (hS.ev rfl) (hS.ev rfl))) hM.fr fun a hS => ?_
              refine tkB hS 56 144115188075855871 (by as_aux_lemma => kernel_rfl) rfl rfl rfl hQp rfl (fun w' hC' => (rv_bneq Tryd.underlying4 (hS.ev rfl) (hS.ev rfl))) hM.fr fun a hS => ?_
              refine tkB hS 57 288230376151711743 (by as_aux_lemma => kernel_rfl) rfl rfl rfl hQp rfl (fun w' hC' => (rv_pick_t (hS.ev rfl) (hS.ev rfl))) hM.fr fun a hS => ?_
              refine tkB hS 58 576460752303423487 (by as_aux_lemma => kernel_rfl) rfl rfl rfl hQp rfl (fun w' hC' => (rv_pick_f (hS.ev rfl) (hS.ev rfl))) hM.fr fun a hS => ?_
              refine an_done (by as_aux_lemma => kernel_rfl) ?_
              have hN := hM.pick [0] (by decide) rfl
              have hM := Mem.callo0 hB hN rfl
              exact hJ4 (r251 != ((r252.length : Int) == (i64.wrap ((i64.wrap (r171.1 * (i64.wrap (r171.1 - 1)))).tdiv 2)))) _ _ (hS.sub (sub_cons rfl (sub_cons rfl sub_nil))) (hM.pick [9, 10] (by decide) rfl) hF
             ·have hS := hS.setb (t := 173) rfl hc
              refine skB hS [42, 43, 44, 45, 46, 47, 48, 49, 50, 51, 52, 53, 54, 55, 56] [174, 175, 176, 177, 178, 179, 180, 181, 182, 183, 184, 185, 186, 187, 188] 144115188075855871 2 rfl (by as_aux_lemma => kernel_rfl) hQp hM.fr fun a hS => ?_
              refine tkB hS 57 288230376151711743 (by as_aux_lemma => kernel_rfl) rfl rfl rfl hQp rfl (fun w' hC' => (rv_pick_f (hS.ev rfl) (hS.ev rfl))) hM.fr fun a hS => ?_
              refine tkB hS 58 576460752303423487 (by as_aux_lemma => kernel_rfl) rfl rfl rfl hQp rfl (fun w' hC' => (rv_pick_f (hS.ev rfl) (hS.ev rfl))) hM.fr fun a hS => ?_
              refine an_done (by as_aux_lemma => kernel_rfl) ?_
              have hN := hM.pick [] (by decide) rfl
              have hM := Mem.callo0 hB hN rfl
              exact hJ4 false _ _ (hS.sub (sub_cons rfl (sub_cons rfl sub_nil))) (hM.pick [8, 9] (by decide) rfl) hF
         ·have hS := hS.setb (t := 150) rfl hc
          refine skB hS [19, 20, 21, 22, 23, 24, 25] [151, 152, 153, 154, 155, 156, 157] 67108863 33 rfl (by as_aux_lemma => kernel_rfl) hQp hM.fr fun a hS => ?_
          refine tkB hS 26 134217727 (by as_aux_lemma => kernel_rfl) rfl rfl rfl hQp rfl (fun w' hC' => (rv_pick_f (hS.ev rfl) (hS.ev rfl))) hM.fr fun a hS => ?_
          refine tkB hS 27 268435455 (by as_aux_lemma => kernel_rfl) rfl rfl rfl hQp rfl (fun w' hC' => (rv_pick_f (hS.ev rfl) (hS.ev rfl))) hM.fr fun a hS => ?_
          refine tkB hS 28 536870911 (by as_aux_lemma => kernel_rfl) rfl rfl rfl hQp rfl (fun w' hC' => (rv_move (hS.ev rfl))) hM.fr fun a hS => ?_
          refine tkB hS 29 1073741823 (by as_aux_lemma => kernel_rfl) rfl rfl rfl hQp rfl (fun w' hC' => (rv_move (hS.ev rfl))) hM.fr fun a hS => ?_
          refine tkB hS 30 2147483647 (by as_aux_lemma => kernel_rfl) rfl rfl rfl hQp rfl (fun w' hC' => (rv_move (hS.ev rfl))) hM.fr fun a hS => ?_
          refine tkB hS 31 4294967295 (by as_aux_lemma => kernel_rfl) rfl rfl rfl hQp rfl (fun w' hC' => (rv_bneq Tryd.underlying4 (hS.ev rfl) (hS.ev rfl))) hM.fr fun a hS => ?_
          refine tkB hS 32 8589934591 (by as_aux_lemma => kernel_rfl) rfl rfl rfl hQp rfl (fun w' hC' => (rv_pick_f (hS.ev rfl) (hS.ev rfl))) hM.fr fun a hS => ?_
          refine tkB hS 33 17179869183 (by as_aux_lemma => kernel_rfl) rfl rfl rfl hQp rfl (fun w' hC' => (rv_move (hS.ev rfl))) hM.fr fun a hS => ?_
          rcases ite_some hF with ⟨hc, hF⟩ | ⟨hc, hF⟩
          ·have hS := hS.setb (t := 165) rfl hc
           refine skB hS [34, 35, 36, 37] [166, 167, 168, 169] 274877906943 21 rfl (by as_aux_lemma => kernel_rfl) hQp hM.fr fun a hS => ?_
           refine tkB hS 38 549755813887 (by as_aux_lemma => kernel_rfl) rfl rfl rfl hQp rfl (fun w' hC' => (rv_pick_t (hS.ev rfl) (hS.ev rfl))) hM.fr fun a hS => ?_
           refine tkB hS 39 1099511627775 (by as_aux_lemma => kernel_rfl) rfl rfl rfl hQp rfl (fun w' hC' => (rv_move (hS.ev rfl))) hM.fr fun a hS => ?_
           refine skB hS [40, 41, 42, 43, 44, 45, 46, 47, 48, 49, 50, 51, 52, 53, 54, 55, 56, 57] [172, 173, 174, 175, 176, 177, 178, 179, 180, 181, 182, 183, 184, 185, 186, 187, 188, 189] 288230376151711743 1 rfl (by as_aux_lemma => kernel_rfl) hQp hM.fr fun a hS => ?_
           refine tkB hS 58 576460752303423487 (by as_aux_lemma => kernel_rfl) rfl rfl rfl hQp rfl (fun w' hC' => (rv_pick_t (hS.ev rfl) (hS.ev rfl))) hM.fr fun a hS => ?_
           refine an_done (by as_aux_lemma => kernel_rfl) ?_
           have hN := hM.pick [] (by decide) rfl
           have hM := Mem.callo0 hB hN rfl
           exact hJ4 true _ _ (hS.sub (sub_cons rfl (sub_cons rfl sub_nil))) (hM.pick [8, 9] (by decide) rfl) hF
          ·have hS := hS.setb (t := 165) rfl hc
           refine tkB hS 34 34359738367 (by as_aux_lemma => kernel_rfl) rfl rfl rfl hQp rfl (fun w' hC' => (rv_load_agg (hS.ev rfl) ty_ag_26 ((hB.fra hC').get 2 rfl) ty_sz_26)) hM.fr fun a hS => ?_
           refine tkB hS 35 68719476735 (by as_aux_lemma => kernel_rfl) rfl rfl rfl hQp rfl (fun w' hC' => (rv_load_agg (hS.ev rfl) ty_ag_26 ((hB.fra hC').get 0 rfl) ty_sz_26)) hM.fr fun a hS => ?_
           obtain ⟨r255, hr, hF⟩ := bind_some hF
           refine an_oneB hS (i := 36) 137438953471 (by as_aux_lemma => kernel_rfl) rfl (by as_aux_lemma => kernel_rfl) rfl ?_
           refine wp_call hS rfl rfl (by decide) fn_ok_28 rfl (c_spec_EqualGraphs F r164.1 r164.2.1 r171.1 r171.2.1 v165 v172 hr _ (rd_of_ow (hM.get 3 rfl)) (rd_of_ow (hM.get 1 rfl))) fun v w a hK hS => ?_
           obtain ⟨rfl, hN⟩ := hK
           have hM := hM.fra hN.fr
           refine ⟨hM.fr, ?_⟩
           refine tkB hS 37 274877906943 (by as_aux_lemma => kernel_rfl) rfl rfl rfl hQp rfl (fun w' hC' => (rv_not (hS.ev rfl))) hM.fr fun a hS => ?_
           refine tkB hS 38 549755813887 (by as_aux_lemma => kernel_rfl) rfl rfl rfl hQp rfl (fun w' hC' => (rv_pick_f (hS.ev rfl) (hS.ev rfl))) hM.fr fun a hS => ?_
           refine tkB hS 39 1099511627775 (by as_aux_lemma => kernel_rfl) rfl rfl rfl hQp rfl (fun w' hC' => (rv_move (hS.ev rfl))) hM.fr fun a hS => ?_
           rcases ite_some hF with ⟨hc, hF⟩ | ⟨hc, hF⟩
           ·have hS := hS.setb (t := 171) rfl hc
            refine skB hS [40, 41, 42, 43, 44, 45, 46, 47, 48, 49, 50, 51, 52, 53, 54, 55, 56, 57] [172, 173, 174, 175, 176, 177, 178, 179, 180, 181, 182, 183, 184, 185, 186, 187, 188, 189] 288230376151711743 1 rfl (by as_aux_lemma => kernel_rfl) hQp hM.fr fun a hS => ?_
            refine tkB hS 58 576460752303423487 (by as_aux_lemma => kernel_rfl) rfl rfl rfl hQp rfl (fun w' hC' => (rv_pick_t (hS.ev rfl) (hS.ev rfl))) hM.fr fun a hS => ?_
            refine an_done (by as_aux_lemma => kernel_rfl) ?_
            have hN := hM.pick [] (by decide) rfl
            have hM := Mem.callo0 hB hN rfl
            exact hJ4 true _ _ (hS.sub (sub_cons rfl (sub_cons rfl sub_nil))) (hM.pick [8, 9] (by decide) rfl) hF
           ·have hS := hS.setb (t := 171) rfl hc
            refine tkB hS 40 2199023255551 (by as_aux_lemma => kernel_rfl) rfl rfl rfl hQp rfl (fun w' hC' => (rv_move (hS.ev rfl))) hM.fr fun a hS => ?_
            refine tkB hS 41 4398046511103 (by as_aux_lemma => kernel_rfl) rfl rfl rfl hQp rfl (fun w' hC' => (rv_move (hS.ev rfl))) hM.fr fun a hS => ?_
            rcases ite_some hF with ⟨hc, hF⟩ | ⟨hc, hF⟩
            ·have hS := hS.setb (t := 173) rfl hc
             refine tkB hS 42 8796093022207 (by as_aux_lemma => kernel_rfl) rfl rfl rfl hQp rfl (fun w' hC' => (rv_load_agg (hS.ev rfl) ty_ag_26 ((hB.fra hC').get 6 rfl) ty_sz_26)) hM.fr fun a hS => ?_
             refine tkB hS 43 17592186044415 (by as_aux_lemma => kernel_rfl) rfl rfl rfl hQp rfl (fun w' hC' => (rv_move (hS.ev rfl))) hM.fr fun a hS => ?_
             refine tkB hS 45 52776558133247 (by as_aux_lemma => kernel_rfl) rfl rfl rfl hQp rfl (fun w' hC' => (rv_load_agg (hS.ev rfl) ty_ag_26 ((hB.fra hC').get 0 rfl) ty_sz_26)) hM.fr fun a hS => ?_
             refine tkB hS 48 334251534843903 (by as_aux_lemma => kernel_rfl) rfl rfl rfl hQp rfl (fun w' hC' => (rv_fieldAddr ty_fd_26_0 (hS.ev rfl))) hM.fr fun a hS => ?_
             refine tkB hS 49 897201488265215 (by as_aux_lemma => kernel_rfl) rfl rfl rfl hQp rfl (fun w' hC' => (rv_load_bx (hS.ev rfl) ty_ag_3 ((hB.fra hC').get 0 rfl) rfl)) hM.fr fun a hS => ?_
             refine tkB hS 50 2023101395107839 (by as_aux_lemma => kernel_rfl) rfl rfl rfl hQp rfl (fun w' hC' => (rv_fieldAddr ty_fd_26_0 (hS.ev rfl))) hM.fr fun a hS => ?_
             refine tkB hS 51 4274901208793087 (by as_aux_lemma => kernel_rfl) rfl rfl rfl hQp rfl (fun w' hC' => (rv_load_bx (hS.ev rfl) ty_ag_3 ((hB.fra hC').get 0 rfl) rfl)) hM.fr fun a hS => ?_
             refine tkB hS 52 8778500836163583 (by as_aux_lemma => kernel_rfl) rfl rfl rfl hQp rfl (fun w' hC' => (rv_sub (hS.ev rfl) (hS.ev rfl))) hM.fr fun a hS => ?_
             refine tkB hS 53 17785700090904575 (by as_aux_lemma => kernel_rfl) rfl rfl rfl hQp rfl (fun w' hC' => (rv_mul (hS.ev rfl) (hS.ev rfl))) hM.fr fun a hS => ?_
             refine tkB hS 54 35800098600386559 (by as_aux_lemma => kernel_rfl) rfl rfl rfl hQp rfl (fun w' hC' => (rv_quo (hS.ev rfl) (hS.ev rfl) (by decide))) hM.fr fun a hS => ?_
             obtain ⟨r256, hr, hF⟩ := bind_some hF
             refine an_oneB hS (i := 44) 35817690786430975 (by as_aux_lemma => kernel_rfl) rfl (by as_aux_lemma => kernel_rfl) rfl ?_
             refine wp_call hS rfl rfl (by decide) fn_ok_24 rfl (c_impl_IsClique F r150.1 r150.2.1 r150.2.2 v151 hr _ (rd_of_ow (hM.get 7 rfl))) fun v w a hK hS => ?_
             obtain ⟨rfl, hN⟩ := hK
             have hM := hM.fra hN.fr
             refine ⟨hM.fr, ?_⟩
             obtain ⟨r257, hr, hF⟩ := bind_some hF
             refine an_oneB hS (i := 46) 35888059530608639 (by as_aux_lemma => kernel_rfl) rfl (by as_aux_lemma => kernel_rfl) rfl ?_
             refine wp_call hS rfl rfl (by decide) fn_ok_29 rfl (c_impl_EdgesOf F r171.1 r171.2.1 v172 hr _ (rd_of_ow (hM.get 1 rfl))) fun v w a hK hS => ?_
             obtain ⟨v258, hs259, hv0, hN⟩ := hK
             subst v
             have hM := hM.add hN rfl
             refine ⟨hM.fr, ?_⟩
             refine tkB hS 47 36028797018963967 (by as_aux_lemma => kernel_rfl) rfl rfl rfl hQp rfl (fun w' hC' => (rv_len_mxM Tryd.underlying40 (hS.ev rfl) (hM.get 0 rfl))) hM.fr fun a hS => ?_
             refine tkB hS 55 72057594037927935 (by as_aux_lemma => kernel_rfl) rfl rfl rfl hQp rfl (fun w' hC' => (rv_eql (hS.ev rfl) (hS.ev rfl))) hM.fr fun a hS => ?_
             refine tkB hS 56 144115188075855871 (by as_aux_lemma => kernel_rfl) rfl rfl rfl hQp rfl (fun w' hC' => (rv_bneq Tryd.underlying4 (hS.ev rfl) (hS.ev rfl))) hM.fr fun a hS => ?_
             refine tkB hS 57 288230376151711743 (by as_aux_lemma => kernel_rfl) rfl rfl rfl hQp rfl (fun w' hC' => (rv_pick_t (hS.ev rfl) (hS.ev rfl))) hM.fr fun a hS => ?_
             refine tkB hS 58 576460752303423487 (by as_aux_lemma => kernel_rfl) rfl rfl rfl hQp rfl (fun w' hC' => (rv_pick_f (hS.ev rfl) (hS.ev rfl))) hM.fr fun a hS => ?_
             refine an_done (by as_aux_lemma => kernel_rfl) ?_
             have hN := hM.pick [0] (by decide) rfl
             have hM := Mem.callo0 hB hN rfl
             exact hJ4 (r256 != ((r257.length : Int) == (i64.wrap ((i64.wrap (r171.1 * (i64.wrap (r171.1 - 1)))).tdiv 2)))) _ _ (hS.sub (sub_cons rfl (sub_cons rfl sub_nil))) (hM.pick [9, 10] (by decide) rfl) hF
            ·have hS := hS.setb (t := 173) rfl hc
             refine skB hS [42, 43, 44, 45, 46, 47, 48, 49, 50, 51, 52, 53, 54, 55, 56] [174, 175, 176, 177, 178, 179, 180, 181, 182, 183, 184, 185, 186, 187, 188] 144115188075855871 2 rfl (by as_aux_lemma => kernel_rfl) hQp hM.fr fun a hS => ?_
             refine tkB hS 57 288230376151711743 (by as_aux_lemma => kernel_rfl) rfl rfl rfl hQp rfl (fun w' hC' => (rv_pick_f (hS.ev rfl) (hS.ev rfl))) hM.fr fun a hS => ?_
             refine tkB hS 58 576460752303423487 (by as_aux_lemma => kernel_rfl) rfl rfl rfl hQp rfl (fun w' hC' => (rv_pick_f (hS.ev rfl) (hS.ev rfl))) hM.fr fun a hS => ?_
             refine an_done (by as_aux_lemma => kernel_rfl) ?_
             have hN := hM.pick [] (by decide) rfl
             have hM := Mem.callo0 hB hN rfl
             exact hJ4 false _ _ (hS.sub (sub_cons rfl (sub_cons rfl sub_nil))) (hM.pick [8, 9] (by decide) rfl) hF
     refine wp_region_lit ?_
     refine st_val hS rfl rfl (by decide) (rv_load_agg (hS.ev rfl) ty_ag_26 (hM.get 1 rfl) ty_sz_26) fun a hS => ?_
     refine st_val hS rfl rfl (by decide) (rv_move (hS.ev rfl)) fun a hS => ?_
     obtain ⟨r260, hr, hF⟩ := bind_some hF
     refine st_wp hS rfl (wp_call hS rfl rfl (by decide) fn_ok_11 rfl (c_spec_IsSet F r15.1 r15.2.1 r15.2.2 v16 hr _ (rd_of_ow (hM.get 2 rfl))) fun v w a hK hS => ?_)
     obtain ⟨rfl, hN⟩ := hK
     have hM := hM.fra hN.fr
     refine st_val hS rfl rfl (by decide) (rv_move (hS.ev rfl)) fun a hS => ?_
     rcases ite_some hF with ⟨hc, hF⟩ | ⟨hc, hF⟩
     ·have hS := hS.setb (t := 105) rfl hc
      refine st_val hS rfl rfl (by decide) (rv_move (hS.ev rfl)) fun a hS => ?_
      refine st_val hS rfl rfl (by decide) (rv_move (hS.ev rfl)) fun a hS => ?_
      refine st_val hS rfl rfl (by decide) (rv_neq (hS.ev rfl) (hS.ev rfl)) fun a hS => ?_
      refine st_val hS rfl rfl (by decide) (rv_pick_t (hS.ev rfl) (hS.ev rfl)) fun a hS => ?_
      refine wpList_nil ?_
      exact hJ3 (x135 != r15.2.2) _ _ (hS.sub (sub_cons rfl (sub_cons rfl sub_nil))) (hM.pick [0, 3] (by decide) rfl) hF
     ·have hS := hS.setb (t := 105) rfl hc
      refine st_skip hS rfl rfl (by decide) fun a hS => ?_
      refine st_skip hS rfl rfl (by decide) fun a hS => ?_
      refine st_skip hS rfl rfl (by decide) fun a hS => ?_
      refine st_val hS rfl rfl (by decide) (rv_pick_f (hS.ev rfl) (hS.ev rfl)) fun a hS => ?_
      refine wpList_nil ?_
      exact hJ3 false _ _ (hS.sub (sub_cons rfl (sub_cons rfl sub_nil))) (hM.pick [0, 3] (by decide) rfl) hF
    refine wp_seq_k fun K261 hK261 => ?_
    refine wp_region_lit ?_
    refine st_val hS rfl rfl (by decide) (rv_assign (hS.ev rfl)) fun a hS => ?_
    refine wpList_nil ?_
    refine hK261 _ _ ?_
    refine wp_block ?_
    obtain ⟨lb6, hl6, hF6⟩ := bind_some hF
    refine wp_loop_sh (fun s => S_laws_FnSets_l6 F r15 r21 s.1 s.2) (fun s a w => Sl 222 [(0, p0_codev), (3, (fdp b17 0)), (4, (int i64 r15.2.2)), (5, v22), (6, (int i64 s.1)), (7, (int i64 s.2))] a ∧ Mem Nob w0 w [(false, rd p0_codev (List.map (int IntKind.u8) p0_code)), (true, bx b17 26 [(int i64 r15.1), v16]), (true, ow 3 v16 (List.map (int i64) r15.2.1)), (true, ow 3 v22 (List.map (int i64) r21)), (false, tabR Tryd.prog tabN)]) hl6 ⟨(hS.sub (sub_cons rfl (sub_cons rfl (sub_cons rfl (sub_cons rfl (sub_cons rfl (sub_cons rfl sub_nil))))))), (hM.pick [0, 1, 2, 3, 4] (by decide) rfl)⟩ ?_
    rintro K6 ⟨x262, x263⟩ a w res6 ⟨hS, hM⟩ hF hN6 hX6
    have hF : S_laws_FnSets_l6 F r15 r21 x262 x263 = some res6 := hF
    have hS : Sl 222 [(0, p0_codev), (3, (fdp b17 0)), (4, (int i64 r15.2.2)), (5, v22), (6, (int i64 x262)), (7, (int i64 x263))] a := hS
    have hM : Mem Nob w0 w [(false, rd p0_codev (List.map (int IntKind.u8) p0_code)), (true, bx b17 26 [(int i64 r15.1), v16]), (true, ow 3 v16 (List.map (int i64) r15.2.1)), (true, ow 3 v22 (List.map (int i64) r21)), (false, tabR Tryd.prog tabN)] := hM
    unfold S_laws_FnSets_l6 at hF
    refine wp_seq_k fun K290 hK290 => ?_
    refine wp_seq_k fun K292 hK292 => ?_
    refine wp_region_lit ?_
    refine st_val hS rfl rfl (by decide) (rv_move (hS.ev rfl)) fun a hS => ?_
    refine st_val hS rfl rfl (by decide) (rv_move (hS.ev rfl)) fun a hS => ?_
    refine st_val hS rfl rfl (by decide) (rv_len_rowM Tryd.underlying24 (hS.ev rfl) (rd_of_ow (hM.get 3 rfl))) fun a hS => ?_
    refine st_val hS rfl rfl (by decide) (rv_lss (hS.ev rfl) (hS.ev rfl)) fun a hS => ?_
    refine wpList_nil ?_
    refine hK292 _ _ ?_
    rcases ite_some hF with ⟨hc, hF⟩ | ⟨hc, hF⟩
    ·refine cond_t hS rfl hc ?_
     refine wp_skip ?_
     refine hK290 _ _ ?_
     refine wp_seq_k fun K293 hK293 => ?_
     refine wp_block ?_
     refine wp_seq_k fun K305 hK305 => ?_
     refine wp_region_lit ?_
     refine st_val hS rfl rfl (by decide) (rv_move (hS.ev rfl)) fun a hS => ?_
     refine st_val hS rfl rfl (by decide) (rv_move (hS.ev rfl)) fun a hS => ?_
     refine st_val hS rfl rfl (by decide) (rv_move (hS.ev rfl)) fun a hS => ?_
     obtain ⟨x307, hx, hF⟩ := bind_some hF
     obtain ⟨hi0, hi1, hex307⟩ := idxL_some hx
     refine st_val hS rfl rfl (by decide) (rv_indexAddr Tryd.underlying24 ty_el_3 (hS.ev rfl) (hS.ev rfl) (rd_of_ow (hM.get 3 rfl)) hi0 (map_len hi1)) fun a hS => ?_
     refine st_val hS rfl rfl (by decide) (rv_load_el (hS.ev rfl) ty_ag_3 (rd_of_ow (hM.get 3 rfl)) (mget hex307)) fun a hS => ?_
     refine st_val hS rfl rfl (by decide) (rv_add (hS.ev rfl) (hS.ev rfl)) fun a hS => ?_
     refine st_val hS rfl rfl (by decide) (rv_assign (hS.ev rfl)) fun a hS => ?_
     refine wpList_nil ?_
     refine hK305 _ _ ?_
     have hS : Sl 222 [(0, p0_codev), (3, (fdp b17 0)), (4, (int i64 r15.2.2)), (5, v22), (6, (int i64 (i64.wrap (x262 + x307)))), (7, (int i64 x263))] a := hS.sub (sub_cons rfl (sub_cons rfl (sub_cons rfl (sub_cons rfl (sub_cons rfl (sub_cons rfl sub_nil))))))
     refine wp_seq_k fun K308 hK308 => ?_
     refine an_startB 13 Nob ty_mixed (by kernel_rfl) fun w hf => ?_
     have hM := hM.fra hf
     have hB := hM
     have hM := hB.reg0
     refine tkB hS 0 1 (by kernel_rfl) rfl rfl rfl hQp rfl (fun w' hC' => (rv_load_agg (hS.ev rfl) ty_ag_26 ((hB.fra hC').get 1 rfl) ty_sz_26)) hM.fr fun a hS => ?_
     refine tkB hS 1 3 (by kernel_rfl) rfl rfl rfl hQp rfl (fun w' hC' => (rv_move (hS.ev rfl))) hM.fr fun a hS => ?_
     refine tkB hS 2 7 (by kernel_rfl) rfl rfl rfl hQp rfl (fun w' hC' => (rv_move (hS.ev rfl))) hM.fr fun a hS => ?_
     obtain ⟨x312, hx, hF⟩ := bind_some hF
     obtain ⟨hi0, hi1, hex312⟩ := idxL_some hx
     refine tkB hS 3 15 (by kernel_rfl) rfl rfl rfl hQp rfl (fun w' hC' => (rv_indexAddr Tryd.underlying24 ty_el_3 (hS.ev rfl) (hS.ev rfl) (rd_of_ow (hM.get 3 rfl)) hi0 (map_len hi1))) hM.fr fun a hS => ?_
     refine tkB hS 4 31 (by kernel_rfl) rfl rfl rfl hQp rfl (fun w' hC' => (rv_load_el (hS.ev rfl) ty_ag_3 (rd_of_ow ((hB.fra hC').get 3 rfl)) (mget hex312))) hM.fr fun a hS => ?_
     refine tkB hS 6 95 (by kernel_rfl) rfl rfl rfl hQp rfl (fun w' hC' => (rv_move (hS.ev rfl))) hM.fr fun a hS => ?_
     refine tkB hS 8 351 (by kernel_rfl) rfl rfl rfl hQp rfl (fun w' hC' => (rv_move (hS.ev rfl))) hM.fr fun a hS => ?_
     refine tkB hS 9 863 (by kernel_rfl) rfl rfl rfl hQp rfl (fun w' hC' => (rv_move (hS.ev rfl))) hM.fr fun a hS => ?_
     obtain ⟨x313, hx, hF⟩ := bind_some hF
     obtain ⟨hi0, hi1, hex313⟩ := idxL_some hx
     refine tkB hS 10 1887 (by kernel_rfl) rfl rfl rfl hQp rfl (fun w' hC' => (rv_indexAddr Tryd.underlying24 ty_el_3 (hS.ev rfl) (hS.ev rfl) (rd_of_ow (hM.get 3 rfl)) hi0 (map_len hi1))) hM.fr fun a hS => ?_
     refine tkB hS 11 3935 (by kernel_rfl) rfl rfl rfl hQp rfl (fun w' hC' => (rv_load_el (hS.ev rfl) ty_ag_3 (rd_of_ow ((hB.fra hC').get 3 rfl)) (mget hex313))) hM.fr fun a hS => ?_
     obtain ⟨r314, hr, hF⟩ := bind_some hF
     refine an_oneB hS (i := 5) 3967 (by kernel_rfl) rfl (by kernel_rfl) rfl ?_
     refine wp_call hS rfl rfl (by decide) fn_ok_18 rfl (c_impl_AroundSet F r15.1 r15.2.1 x312 v16 hr _ (rd_of_ow (hM.get 2 rfl))) fun v w a hK hS => ?_
     obtain ⟨rfl, hN⟩ := hK
     have hM := hM.fra hN.fr
     refine ⟨hM.fr, ?_⟩
     refine tkB hS 7 4095 (by kernel_rfl) rfl rfl rfl hQp rfl (fun w' hC' => (rv_and (hS.ev rfl) (hS.ev rfl))) hM.fr fun a hS => ?_
     refine tkB hS 12 8191 (by kernel_rfl) rfl rfl rfl hQp rfl (fun w' hC' => (rv_neq (hS.ev rfl) (hS.ev rfl))) hM.fr fun a hS => ?_
     refine an_done (by kernel_rfl) ?_
     have hN := hM.pick [] (by decide) rfl
     have hM := Mem.callo0 hB hN rfl
     refine hK308 _ _ ?_
     have hS : Sl 222 [(0, p0_codev), (3, (fdp b17 0)), (4, (int i64 r15.2.2)), (5, v22), (6, (int i64 (i64.wrap (x262 + x307)))), (7, (int i64 x263)), (101, (Value.bool ((bAnd r314 r15.2.2) != x313)))] a := hS.sub (sub_cons rfl (sub_cons rfl (sub_cons rfl (sub_cons rfl (sub_cons rfl (sub_cons rfl (sub_cons rfl sub_nil)))))))
     rcases ite_some hF with ⟨hc, hF⟩ | ⟨hc, hF⟩
     ·refine cond_t hS rfl hc ?_
      refine wp_seq_k fun K315 hK315 => ?_
      refine wp_region_lit ?_
      refine st_val hS rfl rfl (by decide) (rv_assign (hS.ev rfl)) fun a hS => ?_
      refine wpList_nil ?_
      refine hK315 _ _ ?_
      have hS : Sl 222 [(2, (Value.bool false))] a := hS.sub (sub_cons rfl sub_nil)
      have hM := hM.pick [4] (by decide) rfl
      refine wp_ret ?_
      cases hF
      have e := hX6 _ rfl
      subst e
      have hF := hF6
      cases hF
      exact hQr _ _ (r_1 hS rfl rfl ⟨rfl, hM.pick [] (by decide) rfl⟩)
     ·refine cond_f hS rfl hc ?_
      refine wp_skip ?_
      refine hK293 _ _ ?_
      refine wp_region_lit ?_
      refine st_val hS rfl rfl (by decide) (rv_move (hS.ev rfl)) fun a hS => ?_
      refine st_val hS rfl rfl (by decide) (rv_add (hS.ev rfl) (hS.ev rfl)) fun a hS => ?_
      refine st_val hS rfl rfl (by decide) (rv_assign (hS.ev rfl)) fun a hS => ?_
      refine wpList_nil ?_
      cases hF
      exact hN6 _ _ _ rfl ⟨(hS.sub (sub_cons rfl (sub_cons rfl (sub_cons rfl (sub_cons rfl (sub_cons rfl (sub_cons rfl sub_nil))))))), (hM.pick [0, 1, 2, 3, 4] (by decide) rfl)⟩
    ·refine cond_f hS rfl hc ?_
     refine wp_exit ?_
     cases hF
     exact hJ2 x262 _ _ (hS.sub (sub_cons rfl (sub_cons rfl (sub_cons rfl (sub_cons rfl sub_nil))))) (hM.pick [0, 1, 2, 4] (by decide) rfl) (by have e := hX6 _ rfl; subst e; exact hF6)
  refine an_startB 46 Nob ty_mixed (by kernel_rfl) fun w hf => ?_
  have hM := hM.fra hf
  have hB := hM
  have hM := hB.reg0
  refine tkB hS 0 1 (by as_aux_lemma => kernel_rfl) rfl rfl rfl hQp rfl (fun w' hC' => (rv_move (hS.ev rfl))) hM.fr fun a hS => ?_
  refine tkB hS 1 3 (by as_aux_lemma => kernel_rfl) rfl rfl rfl hQp rfl (fun w' hC' => (rv_load_agg (hS.ev rfl) ty_ag_26 ((hB.fra hC').get 1 rfl) ty_sz_26)) hM.fr fun a hS => ?_
  refine tkB hS 2 7 (by as_aux_lemma => kernel_rfl) rfl rfl rfl hQp rfl (fun w' hC' => (rv_move (hS.ev rfl))) hM.fr fun a hS => ?_
  obtain ⟨r316, hr, hF⟩ := bind_some hF
  refine an_oneB hS (i := 3) 15 (by as_aux_lemma => kernel_rfl) rfl (by as_aux_lemma => kernel_rfl) rfl ?_
  refine wp_call hS rfl rfl (by decide) fn_ok_9 rfl (c_spec_PartsOf F r15.1 r15.2.1 r15.2.2 v16 hr _ (rd_of_ow (hM.get 2 rfl))) fun v317 w a hK hS => ?_
  have hN := hK
  have hM := hM.add hN rfl
  refine ⟨hM.fr, ?_⟩
  obtain ⟨r318, hr, hF⟩ := bind_some hF
  refine an_oneB hS (i := 4) 31 (by as_aux_lemma => kernel_rfl) rfl (by as_aux_lemma => kernel_rfl) rfl ?_
  refine wp_call hS rfl rfl (by decide) fn_ok_8 rfl (c_laws_sameInts F r21 r316 v22 v317 hr _ (rd_of_ow (hM.get 1 rfl)) (rd_of_ow (hM.get 0 rfl))) fun v w a hK hS => ?_
  obtain ⟨rfl, hN⟩ := hK
  have hM := hM.fra hN.fr
  refine ⟨hM.fr, ?_⟩
  refine tkB hS 5 63 (by as_aux_lemma => kernel_rfl) rfl rfl rfl hQp rfl (fun w' hC' => (rv_not (hS.ev rfl))) hM.fr fun a hS => ?_
  refine tkB hS 6 127 (by as_aux_lemma => kernel_rfl) rfl rfl rfl hQp rfl (fun w' hC' => (rv_move (hS.ev rfl))) hM.fr fun a hS => ?_
  rcases ite_some hF with ⟨hc, hF⟩ | ⟨hc, hF⟩
  ·have hS := hS.setb (t := 37) rfl hc
   refine skB hS [7, 8, 9, 10, 11, 12, 13] [38, 39, 40, 41, 42, 43, 44] 16383 32 rfl (by as_aux_lemma => kernel_rfl) hQp hM.fr fun a hS => ?_
   refine tkB hS 14 32767 (by as_aux_lemma => kernel_rfl) rfl rfl rfl hQp rfl (fun w' hC' => (rv_pick_t (hS.ev rfl) (hS.ev rfl))) hM.fr fun a hS => ?_
   refine tkB hS 15 65535 (by as_aux_lemma => kernel_rfl) rfl rfl rfl hQp rfl (fun w' hC' => (rv_move (hS.ev rfl))) hM.fr fun a hS => ?_
   refine skB hS [16, 17, 18, 19, 20] [47, 48, 49, 50, 51] 2097151 25 rfl (by as_aux_lemma => kernel_rfl) hQp hM.fr fun a hS => ?_
   refine tkB hS 21 4194303 (by as_aux_lemma => kernel_rfl) rfl rfl rfl hQp rfl (fun w' hC' => (rv_pick_t (hS.ev rfl) (hS.ev rfl))) hM.fr fun a hS => ?_
   refine tkB hS 22 8388607 (by as_aux_lemma => kernel_rfl) rfl rfl rfl hQp rfl (fun w' hC' => (rv_move (hS.ev rfl))) hM.fr fun a hS => ?_
   refine skB hS [23, 24, 25, 26, 27, 28] [54, 55, 56, 57, 58, 59] 536870911 17 rfl (by as_aux_lemma => kernel_rfl) hQp hM.fr fun a hS => ?_
   refine tkB hS 29 1073741823 (by as_aux_lemma => kernel_rfl) rfl rfl rfl hQp rfl (fun w' hC' => (rv_pick_t (hS.ev rfl) (hS.ev rfl))) hM.fr fun a hS => ?_
   refine tkB hS 30 2147483647 (by as_aux_lemma => kernel_rfl) rfl rfl rfl hQp rfl (fun w' hC' => (rv_move (hS.ev rfl))) hM.fr fun a hS => ?_
   refine skB hS [31, 32, 33, 34, 35] [62, 63, 64, 65, 66] 68719476735 10 rfl (by as_aux_lemma => kernel_rfl) hQp hM.fr fun a hS => ?_
   refine tkB hS 36 137438953471 (by as_aux_lemma => kernel_rfl) rfl rfl rfl hQp rfl (fun w' hC' => (rv_pick_t (hS.ev rfl) (hS.ev rfl))) hM.fr fun a hS => ?_
   refine tkB hS 37 274877906943 (by as_aux_lemma => kernel_rfl) rfl rfl rfl hQp rfl (fun w' hC' => (rv_move (hS.ev rfl))) hM.fr fun a hS => ?_
   refine skB hS [38, 39, 40, 41, 42, 43, 44] [69, 70, 71, 72, 73, 74, 75] 35184372088831 1 rfl (by as_aux_lemma => kernel_rfl) hQp hM.fr fun a hS => ?_
   refine tkB hS 45 70368744177663 (by as_aux_lemma => kernel_rfl) rfl rfl rfl hQp rfl (fun w' hC' => (rv_pick_t (hS.ev rfl) (hS.ev rfl))) hM.fr fun a hS => ?_
   refine an_done (by as_aux_lemma => kernel_rfl) ?_
   have hN := hM.pick [0] (by decide) rfl
   have hM := Mem.callo0 hB hN rfl
   exact hJ1 true _ _ (hS.sub (sub_cons rfl (sub_cons rfl (sub_cons rfl (sub_cons rfl (sub_cons rfl sub_nil)))))) (hM.pick [4, 2, 3, 1, 5] (by decide) rfl) hF
  ·have hS := hS.setb (t := 37) rfl hc
   refine tkB hS 7 255 (by as_aux_lemma => kernel_rfl) rfl rfl rfl hQp rfl (fun w' hC' => (rv_load_agg (hS.ev rfl) ty_ag_26 ((hB.fra hC').get 1 rfl) ty_sz_26)) hM.fr fun a hS => ?_
   refine tkB hS 8 511 (by as_aux_lemma => kernel_rfl) rfl rfl rfl hQp rfl (fun w' hC' => (rv_move (hS.ev rfl))) hM.fr fun a hS => ?_
   refine tkB hS 10 1535 (by as_aux_lemma => kernel_rfl) rfl rfl rfl hQp rfl (fun w' hC' => (rv_load_agg (hS.ev rfl) ty_ag_26 ((hB.fra hC').get 1 rfl) ty_sz_26)) hM.fr fun a hS => ?_
   refine tkB hS 11 3583 (by as_aux_lemma => kernel_rfl) rfl rfl rfl hQp rfl (fun w' hC' => (rv_move (hS.ev rfl))) hM.fr fun a hS => ?_
   obtain ⟨r319, hr, hF⟩ := bind_some hF
   refine an_oneB hS (i := 9) 4095 (by as_aux_lemma => kernel_rfl) rfl (by as_aux_lemma => kernel_rfl) rfl ?_
   refine wp_call hS rfl rfl (by decide) fn_ok_10 rfl (c_impl_IsSet F r15.1 r15.2.1 r15.2.2 v16 hr _ (rd_of_ow (hM.get 3 rfl))) fun v w a hK hS => ?_
   obtain ⟨rfl, hN⟩ := hK
   have hM := hM.fra hN.fr
   refine ⟨hM.fr, ?_⟩
   obtain ⟨r320, hr, hF⟩ := bind_some hF
   refine an_oneB hS (i := 12) 8191 (by as_aux_lemma => kernel_rfl) rfl (by as_aux_lemma => kernel_rfl) rfl ?_
   refine wp_call hS rfl rfl (by decide) fn_ok_11 rfl (c_spec_IsSet F r15.1 r15.2.1 r15.2.2 v16 hr _ (rd_of_ow (hM.get 3 rfl))) fun v w a hK hS => ?_
   obtain ⟨rfl, hN⟩ := hK
   have hM := hM.fra hN.fr
   refine ⟨hM.fr, ?_⟩
   refine tkB hS 13 16383 (by as_aux_lemma => kernel_rfl) rfl rfl rfl hQp rfl (fun w' hC' => (rv_bneq Tryd.underlying4 (hS.ev rfl) (hS.ev rfl))) hM.fr fun a hS => ?_
   refine tkB hS 14 32767 (by as_aux_lemma => kernel_rfl) rfl rfl rfl hQp rfl (fun w' hC' => (rv_pick_f (hS.ev rfl) (hS.ev rfl))) hM.fr fun a hS => ?_
   refine tkB hS 15 65535 (by as_aux_lemma => kernel_rfl) rfl rfl rfl hQp rfl (fun w' hC' => (rv_move (hS.ev rfl))) hM.fr fun a hS => ?_
   rcases ite_some hF with ⟨hc, hF⟩ | ⟨hc, hF⟩
   ·have hS := hS.setb (t := 46) rfl hc
    refine skB hS [16, 17, 18, 19, 20] [47, 48, 49, 50, 51] 2097151 25 rfl (by as_aux_lemma => kernel_rfl) hQp hM.fr fun a hS => ?_
    refine tkB hS 21 4194303 (by as_aux_lemma => kernel_rfl) rfl rfl rfl hQp rfl (fun w' hC' => (rv_pick_t (hS.ev rfl) (hS.ev rfl))) hM.fr fun a hS => ?_
    refine tkB hS 22 8388607 (by as_aux_lemma => kernel_rfl) rfl rfl rfl hQp rfl (fun w' hC' => (rv_move (hS.ev rfl))) hM.fr fun a hS => ?_
    refine skB hS [23, 24, 25, 26, 27, 28] [54, 55, 56, 57, 58, 59] 536870911 17 rfl (by as_aux_lemma => kernel_rfl) hQp hM.fr fun a hS => ?_
    refine tkB hS 29 1073741823 (by as_aux_lemma => kernel_rfl) rfl rfl rfl hQp rfl (fun w' hC' => (rv_pick_t (hS.ev rfl) (hS.ev rfl))) hM.fr fun a hS => ?_
    refine tkB hS 30 2147483647 (by as_aux_lemma => kernel_rfl) rfl rfl rfl hQp rfl (fun w' hC' => (rv_move (hS.ev rfl))) hM.fr fun a hS => ?_
    refine skB hS [31, 32, 33, 34, 35] [62, 63, 64, 65, 66] 68719476735 10 rfl (by as_aux_lemma => kernel_rfl) hQp hM.fr fun a hS => ?_
    refine tkB hS 36 137438953471 (by as_aux_lemma => kernel_rfl) rfl rfl rfl hQp rfl (fun w' hC' => (rv_pick_t (hS.ev rfl) (hS.ev rfl))) hM.fr fun a hS => ?_
    refine tkB hS 37 274877906943 (by as_aux_lemma => kernel_rfl) rfl rfl rfl hQp rfl (fun w' hC' => (rv_move (hS.ev rfl))) hM.fr fun a hS => ?_
    refine skB hS [38, 39, 40, 41, 42, 43, 44] [69, 70, 71, 72, 73, 74, 75] 35184372088831 1 rfl (by as_aux_lemma => kernel_rfl) hQp hM.fr fun a hS => ?_
    refine tkB hS 45 70368744177663 (by as_aux_lemma => kernel_rfl) rfl rfl rfl hQp rfl (fun w' hC' => (rv_pick_t (hS.ev rfl) (hS.ev rfl))) hM.fr fun a hS => ?_
    refine an_done (by as_aux_lemma => kernel_rfl) ?_
    have hN := hM.pick [0] (by decide) rfl
    have hM := Mem.callo0 hB hN rfl
    exact hJ1 true _ _ (hS.sub (sub_cons rfl (sub_cons rfl (sub_cons rfl (sub_cons rfl (sub_cons rfl sub_nil)))))) (hM.pick [4, 2, 3, 1, 5] (by decide) rfl) hF
   ·have hS := hS.setb (t := 46) rfl hc
    refine tkB hS 16 131071 (by as_aux_lemma => kernel_rfl) rfl rfl rfl hQp rfl (fun w' hC' => (rv_move (hS.ev rfl))) hM.fr fun a hS => ?_
    refine tkB hS 18 393215 (by as_aux_lemma => kernel_rfl) rfl rfl rfl hQp rfl (fun w' hC' => (rv_move (hS.ev rfl))) hM.fr fun a hS => ?_
    obtain ⟨r321, hr, hF⟩ := bind_some hF
    refine an_oneB hS (i := 17) 524287 (by as_aux_lemma => kernel_rfl) rfl (by as_aux_lemma => kernel_rfl) rfl ?_
    refine wp_call hS rfl rfl (by decide) fn_ok_12 rfl (c_impl_CountSet F r15.2.2 hr _) fun v w a hK hS => ?_
    obtain ⟨rfl, hN⟩ := hK
    have hM := hM.fra hN.fr
    refine ⟨hM.fr, ?_⟩
    obtain ⟨r322, hr, hF⟩ := bind_some hF
    refine an_oneB hS (i := 19) 1048575 (by as_aux_lemma => kernel_rfl) rfl (by as_aux_lemma => kernel_rfl) rfl ?_
    refine wp_call hS rfl rfl (by decide) fn_ok_13 rfl (c_spec_CountSet F r15.2.2 hr _) fun v w a hK hS => ?_
    obtain ⟨rfl, hN⟩ := hK
    have hM := hM.fra hN.fr
    refine ⟨hM.fr, ?_⟩
    refine tkB hS 20 2097151 (by as_aux_lemma => kernel_rfl) rfl rfl rfl hQp rfl (fun w' hC' => (rv_neq (hS.ev rfl) (hS.ev rfl))) hM.fr fun a hS => ?_
    refine tkB hS 21 4194303 (by as_aux_lemma => kernel_rfl) rfl rfl rfl hQp rfl (fun w' hC' => (rv_pick_f (hS.ev rfl) (hS.ev rfl))) hM.fr fun a hS => ?_
    refine tkB hS 22 8388607 (by as_aux_lemma => kernel_rfl) rfl rfl rfl hQp rfl (fun w' hC' => (rv_move (hS.ev rfl))) hM.fr fun a hS => ?_
    rcases ite_some hF with ⟨hc, hF⟩ | ⟨hc, hF⟩
    ·have hS := hS.setb (t := 53) rfl hc
     refine skB hS [23, 24, 25, 26, 27, 28] [54, 55, 56, 57, 58, 59] 536870911 17 rfl (by as_aux_lemma => kernel_rfl) hQp hM.fr fun a hS => ?_
     refine tkB hS 29 1073741823 (by as_aux_lemma => kernel_rfl) rfl rfl rfl hQp rfl (fun w' hC' => (rv_pick_t (hS.ev rfl) (hS.ev rfl))) hM.fr fun a hS => ?_
     refine tkB hS 30 2147483647 (by as_aux_lemma => kernel_rfl) rfl rfl rfl hQp rfl (fun w' hC' => (rv_move (hS.ev rfl))) hM.fr fun a hS => ?_
     refine skB hS [31, 32, 33, 34, 35] [62, 63, 64, 65, 66] 68719476735 10 rfl (by as_aux_lemma => kernel_rfl) hQp hM.fr fun a hS => ?_
     refine tkB hS 36 137438953471 (by as_aux_lemma => kernel_rfl) rfl rfl rfl hQp rfl (fun w' hC' => (rv_pick_t (hS.ev rfl) (hS.ev rfl))) hM.fr fun a hS => ?_
     refine tkB hS 37 274877906943 (by as_aux_lemma => kernel_rfl) rfl rfl rfl hQp rfl (fun w' hC' => (rv_move (hS.ev rfl))) hM.fr fun a hS => ?_
     refine skB hS [38, 39, 40, 41, 42, 43, 44] [69, 70, 71, 72, 73, 74, 75] 35184372088831 1 rfl (by as_aux_lemma => kernel_rfl) hQp hM.fr fun a hS => ?_
     refine tkB hS 45 70368744177663 (by as_aux_lemma => kernel_rfl) rfl rfl rfl hQp rfl (fun w' hC' => (rv_pick_t (hS.ev rfl) (hS.ev rfl))) hM.fr fun a hS => ?_
     refine an_done (by as_aux_lemma => kernel_rfl) ?_
     have hN := hM.pick [0] (by decide) rfl
     have hM := Mem.callo0 hB hN rfl
     exact hJ1 true _ _ (hS.sub (sub_cons rfl (sub_cons rfl (sub_cons rfl (sub_cons rfl (sub_cons rfl sub_nil)))))) (hM.pick [4, 2, 3, 1, 5] (by decide) rfl) hF
    ·have hS := hS.setb (t := 53) rfl hc
     refine tkB hS 23 16777215 (by as_aux_lemma => kernel_rfl) rfl rfl rfl hQp rfl (fun w' hC' => (rv_move (hS.ev rfl))) hM.fr fun a hS => ?_
     refine tkB hS 25 50331647 (by as_aux_lemma => kernel_rfl) rfl rfl rfl hQp rfl (fun w' hC' => (rv_move (hS.ev rfl))) hM.fr fun a hS => ?_
     obtain ⟨r323, hr, hF⟩ := bind_some hF
     refine an_oneB hS (i := 24) 67108863 (by as_aux_lemma => kernel_rfl) rfl (by as_aux_lemma => kernel_rfl) rfl ?_
     refine wp_call hS rfl rfl (by decide) fn_ok_14 rfl (c_impl_ListOf F r15.2.2 hr _) fun v324 w a hK hS => ?_
     have hN := hK
     have hM := hM.add hN rfl
     refine ⟨hM.fr, ?_⟩
     obtain ⟨r325, hr, hF⟩ := bind_some hF
     refine an_oneB hS (i := 26) 134217727 (by as_aux_lemma => kernel_rfl) rfl (by as_aux_lemma => kernel_rfl) rfl ?_
     refine wp_call hS rfl rfl (by decide) fn_ok_15 rfl (c_spec_ListOf F r15.2.2 hr _) fun v326 w a hK hS => ?_
     have hN := hK
     have hM := hM.add hN rfl
     refine ⟨hM.fr, ?_⟩
     obtain ⟨r327, hr, hF⟩ := bind_some hF
     refine an_oneB hS (i := 27) 268435455 (by as_aux_lemma => kernel_rfl) rfl (by as_aux_lemma => kernel_rfl) rfl ?_
     refine wp_call hS rfl rfl (by decide) fn_ok_8 rfl (c_laws_sameInts F r323 r325 v324 v326 hr _ (rd_of_ow (hM.get 1 rfl)) (rd_of_ow (hM.get 0 rfl))) fun v w a hK hS => ?_
     obtain ⟨rfl, hN⟩ := hK
     have hM := hM.fra hN.fr
     refine ⟨hM.fr, ?_⟩
     refine tkB hS 28 536870911 (by as_aux_lemma => kernel_rfl) rfl rfl rfl hQp rfl (fun w' hC' => (rv_not (hS.ev rfl))) hM.fr fun a hS => ?_
     refine tkB hS 29 1073741823 (by as_aux_lemma => kernel_rfl) rfl rfl rfl hQp rfl (fun w' hC' => (rv_pick_f (hS.ev rfl) (hS.ev rfl))) hM.fr fun a hS => ?_
     refine tkB hS 30 2147483647 (by as_aux_lemma => kernel_rfl) rfl rfl rfl hQp rfl (fun w' hC' => (rv_move (hS.ev rfl))) hM.fr fun a hS => ?_
     rcases ite_some hF with ⟨hc, hF⟩ | ⟨hc, hF⟩
     ·have hS := hS.setb (t := 61) rfl hc
      refine skB hS [31, 32, 33, 34, 35] [62, 63, 64, 65, 66] 68719476735 10 rfl (by as_aux_lemma => kernel_rfl) hQp hM.fr fun a hS => ?_
      refine tkB hS 36 137438953471 (by as_aux_lemma => kernel_rfl) rfl rfl rfl hQp rfl (fun w' hC' => (rv_pick_t (hS.ev rfl) (hS.ev rfl))) hM.fr fun a hS => ?_
      refine tkB hS 37 274877906943 (by as_aux_lemma => kernel_rfl) rfl rfl rfl hQp rfl (fun w' hC' => (rv_move (hS.ev rfl))) hM.fr fun a hS => ?_
      refine skB hS [38, 39, 40, 41, 42, 43, 44] [69, 70, 71, 72, 73, 74, 75] 35184372088831 1 rfl (by as_aux_lemma => kernel_rfl) hQp hM.fr fun a hS => ?_
      refine tkB hS 45 70368744177663 (by as_aux_lemma => kernel_rfl) rfl rfl rfl hQp rfl (fun w' hC' => (rv_pick_t (hS.ev rfl) (hS.ev rfl))) hM.fr fun a hS => ?_
      refine an_done (by as_aux_lemma => kernel_rfl) ?_
      have hN := hM.pick [0, 1, 2] (by decide) rfl
      have hM := Mem.callo0 hB hN rfl
      exact hJ1 true _ _ (hS.sub (sub_cons rfl (sub_cons rfl (sub_cons rfl (sub_cons rfl (sub_cons rfl sub_nil)))))) (hM.pick [6, 4, 5, 3, 7] (by decide) rfl) hF
     ·have hS := hS.setb (t := 61) rfl hc
      refine tkB hS 31 4294967295 (by as_aux_lemma => kernel_rfl) rfl rfl rfl hQp rfl (fun w' hC' => (rv_move (hS.ev rfl))) hM.fr fun a hS => ?_
      refine tkB hS 33 12884901887 (by as_aux_lemma => kernel_rfl) rfl rfl rfl hQp rfl (fun w' hC' => (rv_move (hS.ev rfl))) hM.fr fun a hS => ?_
      obtain ⟨r328, hr, hF⟩ := bind_some hF
      refine an_oneB hS (i := 32) 17179869183 (by as_aux_lemma => kernel_rfl) rfl (by as_aux_lemma => kernel_rfl) rfl ?_
      refine wp_call hS rfl rfl (by decide) fn_ok_16 rfl (c_impl_FormatSet F r15.2.2 hr _ (hM.get 7 rfl)) fun v w a hK hS => ?_
      obtain ⟨rfl, hN⟩ := hK
      have hM := hM.fra hN.fr
      refine ⟨hM.fr, ?_⟩
      obtain ⟨r329, hr, hF⟩ := bind_some hF
      refine an_oneB hS (i := 34) 34359738367 (by as_aux_lemma => kernel_rfl) rfl (by as_aux_lemma => kernel_rfl) rfl ?_
      refine wp_call hS rfl rfl (by decide) fn_ok_17 rfl (c_spec_FormatSet F r15.2.2 hr _) fun v w a hK hS => ?_
      obtain ⟨rfl, hN⟩ := hK
      have hM := hM.fra hN.fr
      refine ⟨hM.fr, ?_⟩
      refine tkB hS 35 68719476735 (by as_aux_lemma => kernel_rfl) rfl rfl rfl hQp rfl (fun w' hC' => (rv_str_neq (hS.ev rfl) (hS.ev rfl))) hM.fr fun a hS => ?_
      refine tkB hS 36 137438953471 (by as_aux_lemma => kernel_rfl) rfl rfl rfl hQp rfl (fun w' hC' => (rv_pick_f (hS.ev rfl) (hS.ev rfl))) hM.fr fun a hS => ?_
      refine tkB hS 37 274877906943 (by as_aux_lemma => kernel_rfl) rfl rfl rfl hQp rfl (fun w' hC' => (rv_move (hS.ev rfl))) hM.fr fun a hS => ?_
      rcases ite_some hF with ⟨hc, hF⟩ | ⟨hc, hF⟩
      ·have hS := hS.setb (t := 68) rfl hc
       refine skB hS [38, 39, 40, 41, 42, 43, 44] [69, 70, 71, 72, 73, 74, 75] 35184372088831 1 rfl (by as_aux_lemma => kernel_rfl) hQp hM.fr fun a hS => ?_
       refine tkB hS 45 70368744177663 (by as_aux_lemma => kernel_rfl) rfl rfl rfl hQp rfl (fun w' hC' => (rv_pick_t (hS.ev rfl) (hS.ev rfl))) hM.fr fun a hS => ?_
       refine an_done (by as_aux_lemma => kernel_rfl) ?_
       have hN := hM.pick [0, 1, 2] (by decide) rfl
       have hM := Mem.callo0 hB hN rfl
       exact hJ1 true _ _ (hS.sub (sub_cons rfl (sub_cons rfl (sub_cons rfl (sub_cons rfl (sub_cons rfl sub_nil)))))) (hM.pick [6, 4, 5, 3, 7] (by decide) rfl) hF
      ·have hS := hS.setb (t := 68) rfl hc
       refine tkB hS 38 549755813887 (by as_aux_lemma => kernel_rfl) rfl rfl rfl hQp rfl (fun w' hC' => (rv_load_agg (hS.ev rfl) ty_ag_26 ((hB.fra hC').get 1 rfl) ty_sz_26)) hM.fr fun a hS => ?_
       refine tkB hS 39 1099511627775 (by as_aux_lemma => kernel_rfl) rfl rfl rfl hQp rfl (fun w' hC' => (rv_move (hS.ev rfl))) hM.fr fun a hS => ?_
       refine tkB hS 41 3298534883327 (by as_aux_lemma => kernel_rfl) rfl rfl rfl hQp rfl (fun w' hC' => (rv_load_agg (hS.ev rfl) ty_ag_26 ((hB.fra hC').get 1 rfl) ty_sz_26)) hM.fr fun a hS => ?_
       refine tkB hS 42 7696581394431 (by as_aux_lemma => kernel_rfl) rfl rfl rfl hQp rfl (fun w' hC' => (rv_move (hS.ev rfl))) hM.fr fun a hS => ?_
       obtain ⟨r330, hr, hF⟩ := bind_some hF
       refine an_oneB hS (i := 40) 8796093022207 (by as_aux_lemma => kernel_rfl) rfl (by as_aux_lemma => kernel_rfl) rfl ?_
       refine wp_call hS rfl rfl (by decide) fn_ok_18 rfl (c_impl_AroundSet F r15.1 r15.2.1 r15.2.2 v16 hr _ (rd_of_ow (hM.get 5 rfl))) fun v w a hK hS => ?_
       obtain ⟨rfl, hN⟩ := hK
       have hM := hM.fra hN.fr
       refine ⟨hM.fr, ?_⟩
       obtain ⟨r331, hr, hF⟩ := bind_some hF
       refine an_oneB hS (i := 43) 17592186044415 (by as_aux_lemma => kernel_rfl) rfl (by as_aux_lemma => kernel_rfl) rfl ?_
       refine wp_call hS rfl rfl (by decide) fn_ok_19 rfl (c_spec_AroundSet F r15.1 r15.2.1 r15.2.2 v16 hr _ (rd_of_ow (hM.get 5 rfl))) fun v w a hK hS => ?_
       obtain ⟨rfl, hN⟩ := hK
       have hM := hM.fra hN.fr
       refine ⟨hM.fr, ?_⟩
       refine tkB hS 44 35184372088831 (by as_aux_lemma => kernel_rfl) rfl rfl rfl hQp rfl (fun w' hC' => (rv_neq (hS.ev rfl) (hS.ev rfl))) hM.fr fun a hS => ?_
       refine tkB hS 45 70368744177663 (by as_aux_lemma => kernel_rfl) rfl rfl rfl hQp rfl (fun w' hC' => (rv_pick_f (hS.ev rfl) (hS.ev rfl))) hM.fr fun a hS => ?_
       refine an_done (by as_aux_lemma => kernel_rfl) ?_
       have hN := hM.pick [0, 1, 2] (by decide) rfl
       have hM := Mem.callo0 hB hN rfl
       exact hJ1 (r330 != r331) _ _ (hS.sub (sub_cons rfl (sub_cons rfl (sub_cons rfl (sub_cons rfl (sub_cons rfl sub_nil)))))) (hM.pick [6, 4, 5, 3, 7] (by decide) rfl) hF


end Go.Proofs.YtdalcpadcggklaaDoor
