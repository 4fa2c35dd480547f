/- Proved here: that each Go function does what its shallow function says -/
import Derived.Test.YtilfniehellmmaaSh
import Derived.Test.YtilfniehellmmaaTy
import Derived.Test.YtilfniehellmmaaK13
import Derived.Test.YtilfniehellmmaaW0
import Derived.Test.YtilfniehellmmaaW1
namespace Go.Proofs.Ytilfniehellmmaa
open Go Go.RowKit
set_option linter.unusedVariables false
set_option linter.unusedSimpArgs false
set_option maxRecDepth 100000
set_option maxHeartbeats 40000000

open Go.IntKind (i64)
open Go.Value (int)
theorem c_spec_FindTwoEdges (F : Nat) (p0_g_Size : Int) (p0_g_Rows : List Int) (p0_g_Rowsv : Value) {r : (List (Int)) × Bool} (hF : S_spec_FindTwoEdges F p0_g_Size p0_g_Rows = some r) (w0 : World) (h0 : RdRow w0 p0_g_Rowsv (List.map (int i64) p0_g_Rows)) :
    Calls Try.prog 18 [(Value.agg #[(int i64 p0_g_Size), p0_g_Rowsv])].toArray w0 (retPost fun v w' => ∃ v10, v = (Value.tuple #[v10, (Value.bool r.2)]) ∧ Mem Nob w0 w' [(true, ow 3 v10 (List.map (int i64) r.1))]) := by
 have hM : Mem Nob w0 w0 [(false, rd p0_g_Rowsv (List.map (int i64) p0_g_Rows))] := (Mem.rcons (Mem.nil w0) h0 (by simp))
 refine enter2 Try.func18 rfl rfl rfl fun Q a hQr hQn hQp hS => ?_
 have hS : Sl 13 [(0, (Value.agg #[(int i64 p0_g_Size), p0_g_Rowsv]))] a := hS
 unfold S_spec_FindTwoEdges at hF
 refine wp_seq_k fun K1 hK1 => ?_
 refine wp_region_lit ?_
 obtain ⟨b3, w, hr, hM⟩ := hM.boxE (ρ := a.eval) (dst := some 1) (ty := _) (pos := _) (af := _) (gd := _) (x := .tmp 0) (T := 28) [(int i64 p0_g_Size), p0_g_Rowsv] (hS.ev rfl) rfl
 refine st_val hS rfl rfl (by decide) hr fun a hS => ?_
 refine st_val hS rfl rfl (by decide) (rv_assign (hS.ev rfl)) fun a hS => ?_
 refine st_val hS rfl rfl (by decide) (rv_assign (hS.ev rfl)) fun a hS => ?_
 refine wpList_nil ?_
 refine hK1 _ _ ?_
 refine wp_seq_k fun K4 hK4 => ?_
 refine wp_region_lit ?_
 refine st_val hS rfl rfl (by decide) (rv_load_agg (hS.ev rfl) ty_ag_28 (hM.get 0 rfl) ty_sz_28) fun a hS => ?_
 obtain ⟨r7, hr, hF⟩ := bind_some hF
 refine st_wp hS rfl (wp_call hS rfl rfl (by decide) fn_ok_67 rfl (c_spec_l4Four F p0_g_Size p0_g_Rows 0 p0_g_Rowsv hr _ (hM.get 1 rfl)) fun v w a hK hS => ?_)
 obtain ⟨v8, rfl, hN⟩ := hK
 have hM := hM.add hN rfl
 refine st_val hS rfl rfl (by decide) (rv_move (hS.ev rfl)) fun a hS => ?_
 refine st_val hS rfl rfl (by decide) (rv_extract (hS.ev rfl) rfl) fun a hS => ?_
 refine st_val hS rfl rfl (by decide) (rv_extract (hS.ev rfl) rfl) fun a hS => ?_
 refine st_val hS rfl rfl (by decide) (rv_assign (hS.ev rfl)) fun a hS => ?_
 refine st_val hS rfl rfl (by decide) (rv_assign (hS.ev rfl)) fun a hS => ?_
 refine wpList_nil ?_
 refine hK4 _ _ ?_
 have hS : Sl 13 [(4, v8), (5, (Value.bool r7.2))] a := hS.sub (sub_cons rfl (sub_cons rfl sub_nil))
 have hM := hM.pick [0] (by decide) rfl
 refine wp_seq_k fun K9 hK9 => ?_
 refine wp_region_lit ?_
 refine st_val hS rfl rfl (by decide) (rv_move (hS.ev rfl)) fun a hS => ?_
 refine st_val hS rfl rfl (by decide) (rv_move (hS.ev rfl)) fun a hS => ?_
 refine st_val hS rfl rfl (by decide) (rv_assign (hS.ev rfl)) fun a hS => ?_
 refine st_val hS rfl rfl (by decide) (rv_assign (hS.ev rfl)) fun a hS => ?_
 refine wpList_nil ?_
 refine hK9 _ _ ?_
 refine wp_ret ?_
 cases hF
 exact hQr _ _ (r_2 hS rfl rfl rfl ⟨v8, rfl, hM.pick [0] (by decide) rfl⟩)


theorem c_impl_IsTwoEdges_c1 (F : Nat) (p0_i : Int) (p1_k : Int) {r : Bool} (hF : S_impl_IsTwoEdges_c1 F p0_i p1_k = some r) (w0 : World) :
    Calls Try.prog 89 [(int i64 p0_i), (int i64 p1_k)].toArray w0 (retPost fun v w' => v = (Value.bool r) ∧ Mem Nob w0 w' []) := by
 have hM : Mem Nob w0 w0 [] := (Mem.nil w0)
 refine enter2 Try.func89 rfl rfl rfl fun Q a hQr hQn hQp hS => ?_
 have hS : Sl 19 [(0, (int i64 p0_i)), (1, (int i64 p1_k))] a := hS
 unfold S_impl_IsTwoEdges_c1 at hF
 refine wp_seq_k fun K1 hK1 => ?_
 refine wp_region_lit ?_
 refine st_val hS rfl rfl (by decide) (rv_assign (hS.ev rfl)) fun a hS => ?_
 refine wpList_nil ?_
 refine hK1 _ _ ?_
 refine wp_seq_k fun K2 hK2 => ?_
 have hJ1 : ∀ (p3 : Bool) (a : Act) (w : World), Sl 19 [(4, (Value.bool p3))] a → Mem Nob w0 w [] → S_impl_IsTwoEdges_c1_j1 F p3 = some r → K2 a w := by
  intro p3 a w hS hM hF
  unfold S_impl_IsTwoEdges_c1_j1 at hF
  refine hK2 _ _ ?_
  refine wp_ret ?_
  cases hF
  exact hQr _ _ (r_1 hS rfl rfl ⟨rfl, hM.pick [] (by decide) rfl⟩)
 refine wp_region_lit ?_
 refine st_val hS rfl rfl (by decide) (rv_move (hS.ev rfl)) fun a hS => ?_
 refine st_val hS rfl rfl (by decide) (rv_eql (hS.ev rfl) (hS.ev rfl)) fun a hS => ?_
 refine st_val hS rfl rfl (by decide) (rv_move (hS.ev rfl)) fun a hS => ?_
 rcases ite_some hF with ⟨hc, hF⟩ | ⟨hc, hF⟩
 ·have hS := hS.setb (t := 7) rfl hc
  refine st_val hS rfl rfl (by decide) (rv_move (hS.ev rfl)) fun a hS => ?_
  refine st_val hS rfl rfl (by decide) (rv_eql (hS.ev rfl) (hS.ev rfl)) fun a hS => ?_
  refine st_val hS rfl rfl (by decide) (rv_pick_t (hS.ev rfl) (hS.ev rfl)) fun a hS => ?_
  refine st_val hS rfl rfl (by decide) (rv_move (hS.ev rfl)) fun a hS => ?_
  rcases ite_some hF with ⟨hc, hF⟩ | ⟨hc, hF⟩
  ·have hS := hS.setb (t := 11) rfl hc
   refine st_skip hS rfl rfl (by decide) fun a hS => ?_
   refine st_skip hS rfl rfl (by decide) fun a hS => ?_
   refine st_skip hS rfl rfl (by decide) fun a hS => ?_
   refine st_skip hS rfl rfl (by decide) fun a hS => ?_
   refine st_skip hS rfl rfl (by decide) fun a hS => ?_
   refine st_skip hS rfl rfl (by decide) fun a hS => ?_
   refine st_val hS rfl rfl (by decide) (rv_pick_t (hS.ev rfl) (hS.ev rfl)) fun a hS => ?_
   refine st_val hS rfl rfl (by decide) (rv_assign (hS.ev rfl)) fun a hS => ?_
   refine wpList_nil ?_
   exact hJ1 true _ _ (hS.sub (sub_cons rfl sub_nil)) (hM.pick [] (by decide) rfl) hF
  ·have hS := hS.setb (t := 11) rfl hc
   refine st_val hS rfl rfl (by decide) (rv_move (hS.ev rfl)) fun a hS => ?_
   refine st_val hS rfl rfl (by decide) (rv_eql (hS.ev rfl) (hS.ev rfl)) fun a hS => ?_
   refine st_val hS rfl rfl (by decide) (rv_move (hS.ev rfl)) fun a hS => ?_
   rcases ite_some hF with ⟨hc, hF⟩ | ⟨hc, hF⟩
   ·have hS := hS.setb (t := 14) rfl hc
    refine st_val hS rfl rfl (by decide) (rv_move (hS.ev rfl)) fun a hS => ?_
    refine st_val hS rfl rfl (by decide) (rv_eql (hS.ev rfl) (hS.ev rfl)) fun a hS => ?_
    refine st_val hS rfl rfl (by decide) (rv_pick_t (hS.ev rfl) (hS.ev rfl)) fun a hS => ?_
    refine st_val hS rfl rfl (by decide) (rv_pick_f (hS.ev rfl) (hS.ev rfl)) fun a hS => ?_
    refine st_val hS rfl rfl (by decide) (rv_assign (hS.ev rfl)) fun a hS => ?_
    refine wpList_nil ?_
    exact hJ1 (p1_k == 3) _ _ (hS.sub (sub_cons rfl sub_nil)) (hM.pick [] (by decide) rfl) hF
   ·have hS := hS.setb (t := 14) rfl hc
    refine st_skip hS rfl rfl (by decide) fun a hS => ?_
    refine st_skip hS rfl rfl (by decide) fun a hS => ?_
    refine st_val hS rfl rfl (by decide) (rv_pick_f (hS.ev rfl) (hS.ev rfl)) fun a hS => ?_
    refine st_val hS rfl rfl (by decide) (rv_pick_f (hS.ev rfl) (hS.ev rfl)) fun a hS => ?_
    refine st_val hS rfl rfl (by decide) (rv_assign (hS.ev rfl)) fun a hS => ?_
    refine wpList_nil ?_
    exact hJ1 false _ _ (hS.sub (sub_cons rfl sub_nil)) (hM.pick [] (by decide) rfl) hF
 ·have hS := hS.setb (t := 7) rfl hc
  refine st_skip hS rfl rfl (by decide) fun a hS => ?_
  refine st_skip hS rfl rfl (by decide) fun a hS => ?_
  refine st_val hS rfl rfl (by decide) (rv_pick_f (hS.ev rfl) (hS.ev rfl)) fun a hS => ?_
  refine st_val hS rfl rfl (by decide) (rv_move (hS.ev rfl)) fun a hS => ?_
  refine st_val hS rfl rfl (by decide) (rv_move (hS.ev rfl)) fun a hS => ?_
  refine st_val hS rfl rfl (by decide) (rv_eql (hS.ev rfl) (hS.ev rfl)) fun a hS => ?_
  refine st_val hS rfl rfl (by decide) (rv_move (hS.ev rfl)) fun a hS => ?_
  rcases ite_some hF with ⟨hc, hF⟩ | ⟨hc, hF⟩
  ·have hS := hS.setb (t := 14) rfl hc
   refine st_val hS rfl rfl (by decide) (rv_move (hS.ev rfl)) fun a hS => ?_
   refine st_val hS rfl rfl (by decide) (rv_eql (hS.ev rfl) (hS.ev rfl)) fun a hS => ?_
   refine st_val hS rfl rfl (by decide) (rv_pick_t (hS.ev rfl) (hS.ev rfl)) fun a hS => ?_
   refine st_val hS rfl rfl (by decide) (rv_pick_f (hS.ev rfl) (hS.ev rfl)) fun a hS => ?_
   refine st_val hS rfl rfl (by decide) (rv_assign (hS.ev rfl)) fun a hS => ?_
   refine wpList_nil ?_
   exact hJ1 (p1_k == 3) _ _ (hS.sub (sub_cons rfl sub_nil)) (hM.pick [] (by decide) rfl) hF
  ·have hS := hS.setb (t := 14) rfl hc
   refine st_skip hS rfl rfl (by decide) fun a hS => ?_
   refine st_skip hS rfl rfl (by decide) fun a hS => ?_
   refine st_val hS rfl rfl (by decide) (rv_pick_f (hS.ev rfl) (hS.ev rfl)) fun a hS => ?_
   refine st_val hS rfl rfl (by decide) (rv_pick_f (hS.ev rfl) (hS.ev rfl)) fun a hS => ?_
   refine st_val hS rfl rfl (by decide) (rv_assign (hS.ev rfl)) fun a hS => ?_
   refine wpList_nil ?_
   exact hJ1 false _ _ (hS.sub (sub_cons rfl sub_nil)) (hM.pick [] (by decide) rfl) hF


theorem c_impl_areJoined__IsTwoEdgesc1 (F : Nat) (p0_g_Size : Int) (p0_g_Rows : List Int) (p1_l : List Int) (p0_g_Rowsv : Value) (p1_lv : Value) {r : Bool} (hF : S_impl_areJoined__IsTwoEdgesc1 F p0_g_Size p0_g_Rows p1_l = some r) (w0 : World) (h0 : RdRow w0 p0_g_Rowsv (List.map (int i64) p0_g_Rows)) (h1 : RdRow w0 p1_lv (List.map (int i64) p1_l)) :
    Calls Try.prog 82 [(Value.agg #[(int i64 p0_g_Size), p0_g_Rowsv]), p1_lv, (Value.func (Fn.func 89) #[] #[])].toArray w0 (retPost fun v w' => v = (Value.bool r) ∧ Mem Nob w0 w' []) := by
 have hM : Mem Nob w0 w0 [(false, rd p0_g_Rowsv (List.map (int i64) p0_g_Rows)), (false, rd p1_lv (List.map (int i64) p1_l))] := (Mem.rcons (Mem.rcons (Mem.nil w0) h1 (by simp)) h0 (by simp))
 refine enter2 Try.func82 rfl rfl rfl fun Q a hQr hQn hQp hS => ?_
 have hS : Sl 42 [(0, (Value.agg #[(int i64 p0_g_Size), p0_g_Rowsv])), (1, p1_lv), (2, (Value.func (Fn.func 89) #[] #[]))] a := hS
 unfold S_impl_areJoined__IsTwoEdgesc1 at hF
 refine wp_seq_k fun K1 hK1 => ?_
 refine wp_region_lit ?_
 obtain ⟨b3, w, hr, hM⟩ := hM.boxE (ρ := a.eval) (dst := some 3) (ty := _) (pos := _) (af := _) (gd := _) (x := .tmp 0) (T := 28) [(int i64 p0_g_Size), p0_g_Rowsv] (hS.ev rfl) rfl
 refine st_val hS rfl rfl (by decide) hr fun a hS => ?_
 refine st_val hS rfl rfl (by decide) (rv_assign (hS.ev rfl)) fun a hS => ?_
 refine wpList_nil ?_
 refine hK1 _ _ ?_
 refine wp_seq_k fun K4 hK4 => ?_
 refine wp_seq_k fun K9 hK9 => ?_
 refine wp_region_lit ?_
 refine st_val hS rfl rfl (by decide) (rv_load_agg (hS.ev rfl) ty_ag_28 (hM.get 0 rfl) ty_sz_28) fun a hS => ?_
 refine st_val hS rfl rfl (by decide) (rv_move (hS.ev rfl)) fun a hS => ?_
 obtain ⟨r11, hr, hF⟩ := bind_some hF
 refine st_wp hS rfl (wp_call hS rfl rfl (by decide) fn_ok_107 rfl (c_impl_areVertices F p0_g_Size p0_g_Rows p1_l p0_g_Rowsv p1_lv hr _ (hM.get 1 rfl) (hM.get 2 rfl)) fun v w a hK hS => ?_)
 obtain ⟨rfl, hN⟩ := hK
 have hM := hM.fra hN.fr
 refine st_val hS rfl rfl (by decide) (rv_not (hS.ev rfl)) fun a hS => ?_
 refine wpList_nil ?_
 refine hK9 _ _ ?_
 rcases ite_some hF with ⟨hc, hF⟩ | ⟨hc, hF⟩
 ·refine cond_t hS rfl hc ?_
  refine wp_seq_k fun K12 hK12 => ?_
  refine wp_region_lit ?_
  refine st_val hS rfl rfl (by decide) (rv_assign (hS.ev rfl)) fun a hS => ?_
  refine wpList_nil ?_
  refine hK12 _ _ ?_
  have hS : Sl 42 [(6, (Value.bool false))] a := hS.sub (sub_cons rfl sub_nil)
  have hM := hM.pick [] (by decide) rfl
  refine wp_ret ?_
  cases hF
  exact hQr _ _ (r_1 hS rfl rfl ⟨rfl, hM.pick [] (by decide) rfl⟩)
 ·refine cond_f hS rfl hc ?_
  refine wp_skip ?_
  refine hK4 _ _ ?_
  refine wp_seq_k fun K13 hK13 => ?_
  have hJ1 : ∀ (a : Act) (w : World), Sl 42 [] a → Mem Nob w0 w [] → S_impl_areJoined__IsTwoEdgesc1_j1 F = some r → K13 a w := by
   intro a w hS hM hF
   unfold S_impl_areJoined__IsTwoEdgesc1_j1 at hF
   refine hK13 _ _ ?_
   refine wp_seq_k fun K266 hK266 => ?_
   refine wp_region_lit ?_
   refine st_val hS rfl rfl (by decide) (rv_assign (hS.ev rfl)) fun a hS => ?_
   refine wpList_nil ?_
   refine hK266 _ _ ?_
   refine wp_ret ?_
   cases hF
   exact hQr _ _ (r_1 hS rfl rfl ⟨rfl, hM.pick [] (by decide) rfl⟩)
  refine wp_seq_k fun K267 hK267 => ?_
  refine wp_region_lit ?_
  refine st_val hS rfl rfl (by decide) (rv_move (hS.ev rfl)) fun a hS => ?_
  refine st_val hS rfl rfl (by decide) (rv_len_rowM Try.underlying22 (hS.ev rfl) (hM.get 2 rfl)) fun a hS => ?_
  refine st_val hS rfl rfl (by decide) (rv_move (hS.ev rfl)) fun a hS => ?_
  refine wpList_nil ?_
  refine hK267 _ _ ?_
  refine wp_block ?_
  obtain ⟨lb2, hl2, hF2⟩ := bind_some hF
  refine wp_loop_sh (fun s => S_impl_areJoined__IsTwoEdgesc1_l2 F p0_g_Rows p1_l s) (fun s a w => Sl 42 [(1, p1_lv), (2, (Value.func (Fn.func 89) #[] #[])), (3, (fdp b3 0)), (14, (int i64 (p1_l.length : Int))), (15, (int i64 s))] a ∧ Mem Nob w0 w [(false, rd p1_lv (List.map (int i64) p1_l)), (true, bx b3 28 [(int i64 p0_g_Size), p0_g_Rowsv]), (false, rd p0_g_Rowsv (List.map (int i64) p0_g_Rows))]) hl2 ⟨(hS.sub (sub_cons rfl (sub_cons rfl (sub_cons rfl (sub_cons rfl (sub_cons rfl sub_nil)))))), (hM.pick [2, 0, 1] (by decide) rfl)⟩ ?_
  rintro K2 x268 a w res2 ⟨hS, hM⟩ hF hN2 hX2
  have hF : S_impl_areJoined__IsTwoEdgesc1_l2 F p0_g_Rows p1_l x268 = some res2 := hF
  have hS : Sl 42 [(1, p1_lv), (2, (Value.func (Fn.func 89) #[] #[])), (3, (fdp b3 0)), (14, (int i64 (p1_l.length : Int))), (15, (int i64 x268))] a := hS
  have hM : Mem Nob w0 w [(false, rd p1_lv (List.map (int i64) p1_l)), (true, bx b3 28 [(int i64 p0_g_Size), p0_g_Rowsv]), (false, rd p0_g_Rowsv (List.map (int i64) p0_g_Rows))] := hM
  unfold S_impl_areJoined__IsTwoEdgesc1_l2 at hF
  refine wp_seq_k fun K394 hK394 => ?_
  refine wp_region_lit ?_
  refine st_val hS rfl rfl (by decide) (rv_lss (hS.ev rfl) (hS.ev rfl)) fun a hS => ?_
  refine wpList_nil ?_
  refine hK394 _ _ ?_
  refine wp_seq_k fun K395 hK395 => ?_
  rcases ite_some hF with ⟨hc, hF⟩ | ⟨hc, hF⟩
  ·refine cond_t hS rfl hc ?_
   refine wp_skip ?_
   refine hK395 _ _ ?_
   refine wp_seq_k fun K396 hK396 => ?_
   have hJ3 : ∀ (a : Act) (w : World), Sl 42 [(1, p1_lv), (2, (Value.func (Fn.func 89) #[] #[])), (3, (fdp b3 0)), (14, (int i64 (p1_l.length : Int))), (15, (int i64 x268))] a → Mem Nob w0 w [(false, rd p1_lv (List.map (int i64) p1_l)), (true, bx b3 28 [(int i64 p0_g_Size), p0_g_Rowsv]), (false, rd p0_g_Rowsv (List.map (int i64) p0_g_Rows))] → S_impl_areJoined__IsTwoEdgesc1_j3 F x268 = some res2 → K396 a w := by
    intro a w hS hM hF
    unfold S_impl_areJoined__IsTwoEdgesc1_j3 at hF
    refine hK396 _ _ ?_
    refine wp_region_lit ?_
    refine st_val hS rfl rfl (by decide) (rv_add (hS.ev rfl) (hS.ev rfl)) fun a hS => ?_
    refine st_val hS rfl rfl (by decide) (rv_move (hS.ev rfl)) fun a hS => ?_
    refine wpList_nil ?_
    cases hF
    exact hN2 _ _ _ rfl ⟨(hS.sub (sub_cons rfl (sub_cons rfl (sub_cons rfl (sub_cons rfl (sub_cons rfl sub_nil)))))), (hM.pick [0, 1, 2] (by decide) rfl)⟩
   refine wp_block ?_
   refine wp_seq_k fun K458 hK458 => ?_
   refine wp_region_lit ?_
   refine st_val hS rfl rfl (by decide) (rv_move (hS.ev rfl)) fun a hS => ?_
   refine st_val hS rfl rfl (by decide) (rv_assign (hS.ev rfl)) fun a hS => ?_
   refine wpList_nil ?_
   refine hK458 _ _ ?_
   refine wp_seq_k fun K459 hK459 => ?_
   refine wp_region_lit ?_
   refine st_val hS rfl rfl (by decide) (rv_move (hS.ev rfl)) fun a hS => ?_
   refine st_val hS rfl rfl (by decide) (rv_move (hS.ev rfl)) fun a hS => ?_
   refine wpList_nil ?_
   refine hK459 _ _ ?_
   refine wp_block ?_
   obtain ⟨lb4, hl4, hF4⟩ := bind_some hF
   refine wp_loop_sh (fun s => S_impl_areJoined__IsTwoEdgesc1_l4 F p0_g_Rows p1_l x268 s) (fun s a w => Sl 42 [(1, p1_lv), (2, (Value.func (Fn.func 89) #[] #[])), (3, (fdp b3 0)), (7, (int i64 x268)), (14, (int i64 (p1_l.length : Int))), (15, (int i64 x268)), (18, (int i64 x268)), (19, (int i64 s))] a ∧ Mem Nob w0 w [(false, rd p1_lv (List.map (int i64) p1_l)), (true, bx b3 28 [(int i64 p0_g_Size), p0_g_Rowsv]), (false, rd p0_g_Rowsv (List.map (int i64) p0_g_Rows))]) hl4 ⟨(hS.sub (sub_cons rfl (sub_cons rfl (sub_cons rfl (sub_cons rfl (sub_cons rfl (sub_cons rfl (sub_cons rfl (sub_cons rfl sub_nil))))))))), (hM.pick [0, 1, 2] (by decide) rfl)⟩ ?_
   rintro K4 x460 a w res4 ⟨hS, hM⟩ hF hN4 hX4
   have hF : S_impl_areJoined__IsTwoEdgesc1_l4 F p0_g_Rows p1_l x268 x460 = some res4 := hF
   have hS : Sl 42 [(1, p1_lv), (2, (Value.func (Fn.func 89) #[] #[])), (3, (fdp b3 0)), (7, (int i64 x268)), (14, (int i64 (p1_l.length : Int))), (15, (int i64 x268)), (18, (int i64 x268)), (19, (int i64 x460))] a := hS
   have hM : Mem Nob w0 w [(false, rd p1_lv (List.map (int i64) p1_l)), (true, bx b3 28 [(int i64 p0_g_Size), p0_g_Rowsv]), (false, rd p0_g_Rowsv (List.map (int i64) p0_g_Rows))] := hM
   unfold S_impl_areJoined__IsTwoEdgesc1_l4 at hF
   refine wp_seq_k fun K490 hK490 => ?_
   refine wp_region_lit ?_
   refine st_val hS rfl rfl (by decide) (rv_lss (hS.ev rfl) (hS.ev rfl)) fun a hS => ?_
   refine wpList_nil ?_
   refine hK490 _ _ ?_
   refine wp_seq_k fun K491 hK491 => ?_
   rcases ite_some hF with ⟨hc, hF⟩ | ⟨hc, hF⟩
   ·refine cond_t hS rfl hc ?_
    refine wp_skip ?_
    refine hK491 _ _ ?_
    refine wp_seq_k fun K492 hK492 => ?_
    refine wp_block ?_
    refine wp_seq_k fun K506 hK506 => ?_
    refine wp_region_lit ?_
    refine st_val hS rfl rfl (by decide) (rv_move (hS.ev rfl)) fun a hS => ?_
    refine st_val hS rfl rfl (by decide) (rv_assign (hS.ev rfl)) fun a hS => ?_
    refine wpList_nil ?_
    refine hK506 _ _ ?_
    refine wp_seq_k fun K507 hK507 => ?_
    refine an_startB 18 Nob ty_mixed (by kernel_rfl) fun w hf => ?_
    have hM := hM.fra hf
    have hB := hM
    have hM := hB.reg0
    refine tkB hS 0 1 (by kernel_rfl) rfl rfl rfl hQp rfl (fun w' hC' => (rv_fieldAddr ty_fd_28_1 (hS.ev rfl))) hM.fr fun a hS => ?_
    refine tkB hS 1 3 (by kernel_rfl) rfl rfl rfl hQp rfl (fun w' hC' => (rv_load_bx (hS.ev rfl) ty_ag_22 ((hB.fra hC').get 1 rfl) rfl)) hM.fr fun a hS => ?_
    refine tkB hS 2 7 (by kernel_rfl) rfl rfl rfl hQp rfl (fun w' hC' => (rv_move (hS.ev rfl))) hM.fr fun a hS => ?_
    refine tkB hS 3 15 (by kernel_rfl) rfl rfl rfl hQp rfl (fun w' hC' => (rv_move (hS.ev rfl))) hM.fr fun a hS => ?_
    obtain ⟨x513, hx, hF⟩ := bind_some hF
    obtain ⟨hi0, hi1, hex513⟩ := idxL_some hx
    refine tkB hS 4 31 (by kernel_rfl) rfl rfl rfl hQp rfl (fun w' hC' => (rv_indexAddr Try.underlying22 ty_el_3 (hS.ev rfl) (hS.ev rfl) (hM.get 0 rfl) hi0 (map_len hi1))) hM.fr fun a hS => ?_
    refine tkB hS 5 63 (by kernel_rfl) rfl rfl rfl hQp rfl (fun w' hC' => (rv_load_el (hS.ev rfl) ty_ag_3 ((hB.fra hC').get 0 rfl) (mget hex513))) hM.fr fun a hS => ?_
    obtain ⟨x514, hx, hF⟩ := bind_some hF
    obtain ⟨hi0, hi1, hex514⟩ := idxL_some hx
    refine tkB hS 6 127 (by kernel_rfl) rfl rfl rfl hQp rfl (fun w' hC' => (rv_indexAddr Try.underlying22 ty_el_3 (hS.ev rfl) (hS.ev rfl) (hM.get 2 rfl) hi0 (map_len hi1))) hM.fr fun a hS => ?_
    refine tkB hS 7 255 (by kernel_rfl) rfl rfl rfl hQp rfl (fun w' hC' => (rv_load_el (hS.ev rfl) ty_ag_3 ((hB.fra hC').get 2 rfl) (mget hex514))) hM.fr fun a hS => ?_
    refine tkB hS 8 511 (by kernel_rfl) rfl rfl rfl hQp rfl (fun w' hC' => (rv_move (hS.ev rfl))) hM.fr fun a hS => ?_
    refine tkB hS 9 1023 (by kernel_rfl) rfl rfl rfl hQp rfl (fun w' hC' => (rv_move (hS.ev rfl))) hM.fr fun a hS => ?_
    obtain ⟨x515, hx, hF⟩ := bind_some hF
    obtain ⟨hi0, hi1, hex515⟩ := idxL_some hx
    refine tkB hS 10 2047 (by kernel_rfl) rfl rfl rfl hQp rfl (fun w' hC' => (rv_indexAddr Try.underlying22 ty_el_3 (hS.ev rfl) (hS.ev rfl) (hM.get 0 rfl) hi0 (map_len hi1))) hM.fr fun a hS => ?_
    refine tkB hS 11 4095 (by kernel_rfl) rfl rfl rfl hQp rfl (fun w' hC' => (rv_load_el (hS.ev rfl) ty_ag_3 ((hB.fra hC').get 0 rfl) (mget hex515))) hM.fr fun a hS => ?_
    refine tkB hS 13 12287 (by kernel_rfl) rfl rfl rfl hQp rfl (fun w' hC' => (rv_move (hS.ev rfl))) hM.fr fun a hS => ?_
    refine tkB hS 14 28671 (by kernel_rfl) rfl rfl rfl hQp rfl (fun w' hC' => (rv_move (hS.ev rfl))) hM.fr fun a hS => ?_
    refine tkB hS 15 61439 (by kernel_rfl) rfl rfl rfl hQp rfl (fun w' hC' => (rv_move (hS.ev rfl))) hM.fr fun a hS => ?_
    obtain ⟨r516, hr, hF⟩ := bind_some hF
    refine an_oneB hS (i := 12) 65535 (by kernel_rfl) rfl (by kernel_rfl) rfl ?_
    refine wp_call hS rfl rfl (by decide) fn_ok_108 rfl (c_impl_has F x514 x515 hr _) fun v w a hK hS => ?_
    obtain ⟨rfl, hN⟩ := hK
    have hM := hM.fra hN.fr
    refine ⟨hM.fr, ?_⟩
    obtain ⟨r517, hr, hF⟩ := bind_some hF
    refine an_oneB hS (i := 16) 131071 (by kernel_rfl) rfl (by kernel_rfl) rfl ?_
    refine wp_callv (vs := [(int i64 x460), (int i64 x268)]) (cap := []) hS rfl rfl rfl (by decide) fn_ok_89 rfl (c_impl_IsTwoEdges_c1 F x460 x268 hr _) fun v w a hK hS => ?_
    obtain ⟨rfl, hN⟩ := hK
    have hM := hM.fra hN.fr
    refine ⟨hM.fr, ?_⟩
    refine tkB hS 17 262143 (by kernel_rfl) rfl rfl rfl hQp rfl (fun w' hC' => (rv_bneq Try.underlying4 (hS.ev rfl) (hS.ev rfl))) hM.fr fun a hS => ?_
    refine an_done (by kernel_rfl) ?_
    have hN := hM.pick [] (by decide) rfl
    have hM := Mem.callo0 hB hN rfl
    refine hK507 _ _ ?_
    have hS : Sl 42 [(1, p1_lv), (2, (Value.func (Fn.func 89) #[] #[])), (3, (fdp b3 0)), (7, (int i64 x268)), (14, (int i64 (p1_l.length : Int))), (15, (int i64 x268)), (18, (int i64 x268)), (19, (int i64 x460)), (39, (Value.bool (r516 != r517)))] a := hS.sub (sub_cons rfl (sub_cons rfl (sub_cons rfl (sub_cons rfl (sub_cons rfl (sub_cons rfl (sub_cons rfl (sub_cons rfl (sub_cons rfl sub_nil)))))))))
    rcases ite_some hF with ⟨hc, hF⟩ | ⟨hc, hF⟩
    ·refine cond_t hS rfl hc ?_
     refine wp_seq_k fun K518 hK518 => ?_
     refine wp_region_lit ?_
     refine st_val hS rfl rfl (by decide) (rv_assign (hS.ev rfl)) fun a hS => ?_
     refine wpList_nil ?_
     refine hK518 _ _ ?_
     have hS : Sl 42 [(6, (Value.bool false))] a := hS.sub (sub_cons rfl sub_nil)
     have hM := hM.pick [] (by decide) rfl
     refine wp_ret ?_
     cases hF
     have e := hX4 _ rfl
     subst e
     have hF := hF4
     cases hF
     have e := hX2 _ rfl
     subst e
     have hF := hF2
     cases hF
     exact hQr _ _ (r_1 hS rfl rfl ⟨rfl, hM.pick [] (by decide) rfl⟩)
    ·refine cond_f hS rfl hc ?_
     refine wp_skip ?_
     refine hK492 _ _ ?_
     refine wp_region_lit ?_
     refine st_val hS rfl rfl (by decide) (rv_add (hS.ev rfl) (hS.ev rfl)) fun a hS => ?_
     refine st_val hS rfl rfl (by decide) (rv_move (hS.ev rfl)) fun a hS => ?_
     refine wpList_nil ?_
     cases hF
     exact hN4 _ _ _ rfl ⟨(hS.sub (sub_cons rfl (sub_cons rfl (sub_cons rfl (sub_cons rfl (sub_cons rfl (sub_cons rfl (sub_cons rfl (sub_cons rfl sub_nil))))))))), (hM.pick [0, 1, 2] (by decide) rfl)⟩
   ·refine cond_f hS rfl hc ?_
    refine wp_exit ?_
    cases hF
    exact hJ3 _ _ (hS.sub (sub_cons rfl (sub_cons rfl (sub_cons rfl (sub_cons rfl (sub_cons rfl sub_nil)))))) (hM.pick [0, 1, 2] (by decide) rfl) (by have e := hX4 _ rfl; subst e; exact hF4)
  ·refine cond_f hS rfl hc ?_
   refine wp_exit ?_
   cases hF
   exact hJ1 _ _ (hS.sub sub_nil) (hM.pick [] (by decide) rfl) (by have e := hX2 _ rfl; subst e; exact hF2)


theorem c_impl_IsTwoEdges (F : Nat) (p0_g_Size : Int) (p0_g_Rows : List Int) (p1_l : List Int) (p0_g_Rowsv : Value) (p1_lv : Value) {r : Bool} (hF : S_impl_IsTwoEdges F p0_g_Size p0_g_Rows p1_l = some r) (w0 : World) (h0 : RdRow w0 p0_g_Rowsv (List.map (int i64) p0_g_Rows)) (h1 : RdRow w0 p1_lv (List.map (int i64) p1_l)) :
    Calls Try.prog 33 [(Value.agg #[(int i64 p0_g_Size), p0_g_Rowsv]), p1_lv].toArray w0 (retPost fun v w' => v = (Value.bool r) ∧ Mem Nob w0 w' []) := by
 have hM : Mem Nob w0 w0 [(false, rd p0_g_Rowsv (List.map (int i64) p0_g_Rows)), (false, rd p1_lv (List.map (int i64) p1_l))] := (Mem.rcons (Mem.rcons (Mem.nil w0) h1 (by simp)) h0 (by simp))
 refine enter2 Try.func33 rfl rfl rfl fun Q a hQr hQn hQp hS => ?_
 have hS : Sl 13 [(0, (Value.agg #[(int i64 p0_g_Size), p0_g_Rowsv])), (1, p1_lv)] a := hS
 unfold S_impl_IsTwoEdges at hF
 refine wp_seq_k fun K1 hK1 => ?_
 refine wp_region_lit ?_
 obtain ⟨b3, w, hr, hM⟩ := hM.boxE (ρ := a.eval) (dst := some 2) (ty := _) (pos := _) (af := _) (gd := _) (x := .tmp 0) (T := 28) [(int i64 p0_g_Size), p0_g_Rowsv] (hS.ev rfl) rfl
 refine st_val hS rfl rfl (by decide) hr fun a hS => ?_
 refine st_val hS rfl rfl (by decide) (rv_assign (hS.ev rfl)) fun a hS => ?_
 refine wpList_nil ?_
 refine hK1 _ _ ?_
 refine wp_seq_k fun K4 hK4 => ?_
 have hJ1 : ∀ (p6 : Bool) (a : Act) (w : World), Sl 13 [(4, (Value.bool p6))] a → Mem Nob w0 w [] → S_impl_IsTwoEdges_j1 F p6 = some r → K4 a w := by
  intro p6 a w hS hM hF
  unfold S_impl_IsTwoEdges_j1 at hF
  refine hK4 _ _ ?_
  refine wp_ret ?_
  cases hF
  exact hQr _ _ (r_1 hS rfl rfl ⟨rfl, hM.pick [] (by decide) rfl⟩)
 refine wp_region_lit ?_
 refine st_val hS rfl rfl (by decide) (rv_move (hS.ev rfl)) fun a hS => ?_
 refine st_val hS rfl rfl (by decide) (rv_len_rowM Try.underlying22 (hS.ev rfl) (hM.get 2 rfl)) fun a hS => ?_
 refine st_val hS rfl rfl (by decide) (rv_eql (hS.ev rfl) (hS.ev rfl)) fun a hS => ?_
 refine st_val hS rfl rfl (by decide) (rv_move (hS.ev rfl)) fun a hS => ?_
 rcases ite_some hF with ⟨hc, hF⟩ | ⟨hc, hF⟩
 ·have hS := hS.setb (t := 8) rfl hc
  refine st_val hS rfl rfl (by decide) (rv_load_agg (hS.ev rfl) ty_ag_28 (hM.get 0 rfl) ty_sz_28) fun a hS => ?_
  refine st_val hS rfl rfl (by decide) (rv_move (hS.ev rfl)) fun a hS => ?_
  obtain ⟨r7, hr, hF⟩ := bind_some hF
  refine st_wp hS rfl (wp_call hS rfl rfl (by decide) fn_ok_82 rfl (c_impl_areJoined__IsTwoEdgesc1 F p0_g_Size p0_g_Rows p1_l p0_g_Rowsv p1_lv hr _ (hM.get 1 rfl) (hM.get 2 rfl)) fun v w a hK hS => ?_)
  obtain ⟨rfl, hN⟩ := hK
  have hM := hM.fra hN.fr
  refine st_val hS rfl rfl (by decide) (rv_pick_t (hS.ev rfl) (hS.ev rfl)) fun a hS => ?_
  refine st_val hS rfl rfl (by decide) (rv_assign (hS.ev rfl)) fun a hS => ?_
  refine wpList_nil ?_
  exact hJ1 r7 _ _ (hS.sub (sub_cons rfl sub_nil)) (hM.pick [] (by decide) rfl) hF
 ·have hS := hS.setb (t := 8) rfl hc
  refine st_skip hS rfl rfl (by decide) fun a hS => ?_
  refine st_skip hS rfl rfl (by decide) fun a hS => ?_
  refine st_skip hS rfl rfl (by decide) fun a hS => ?_
  refine st_val hS rfl rfl (by decide) (rv_pick_f (hS.ev rfl) (hS.ev rfl)) fun a hS => ?_
  refine st_val hS rfl rfl (by decide) (rv_assign (hS.ev rfl)) fun a hS => ?_
  refine wpList_nil ?_
  exact hJ1 false _ _ (hS.sub (sub_cons rfl sub_nil)) (hM.pick [] (by decide) rfl) hF


theorem c_impl_FindTwoEdges_c1 (F : Nat) (p0_l : List Int) (q0_Size : Int) (q0_Rows : List Int) (p0_lv : Value) (q0_Rowsv : Value) (q0b : Nat) {r : Bool} (hF : S_impl_FindTwoEdges_c1 F p0_l q0_Size q0_Rows = some r) (w0 : World) (h0 : RdRow w0 p0_lv (List.map (int i64) p0_l)) (h1 : RdRow w0 q0_Rowsv (List.map (int i64) q0_Rows)) (h2 : (bx q0b 28 [(int i64 q0_Size), q0_Rowsv]).P w0) :
    Calls Try.prog 72 [p0_lv, (fdp q0b 0)].toArray w0 (retPost fun v w' => v = (Value.bool r) ∧ Mem Nob w0 w' []) := by
 have hM : Mem Nob w0 w0 [(false, rd p0_lv (List.map (int i64) p0_l)), (false, rd q0_Rowsv (List.map (int i64) q0_Rows)), (false, bx q0b 28 [(int i64 q0_Size), q0_Rowsv])] := (Mem.rcons (Mem.rcons (Mem.gcons (Mem.nil w0) h2 (by simp)) h1 (by simp)) h0 (by simp))
 refine enter2 Try.func72 rfl rfl rfl fun Q a hQr hQn hQp hS => ?_
 have hS : Sl 7 [(0, p0_lv), (1, (fdp q0b 0))] a := hS
 unfold S_impl_FindTwoEdges_c1 at hF
 refine wp_seq_k fun K1 hK1 => ?_
 refine wp_region_lit ?_
 refine st_val hS rfl rfl (by decide) (rv_assign (hS.ev rfl)) fun a hS => ?_
 refine wpList_nil ?_
 refine hK1 _ _ ?_
 refine wp_seq_k fun K2 hK2 => ?_
 refine wp_region_lit ?_
 refine st_val hS rfl rfl (by decide) (rv_load_agg (hS.ev rfl) ty_ag_28 (hM.get 2 rfl) ty_sz_28) fun a hS => ?_
 refine st_val hS rfl rfl (by decide) (rv_move (hS.ev rfl)) fun a hS => ?_
 obtain ⟨r4, hr, hF⟩ := bind_some hF
 refine st_wp hS rfl (wp_call hS rfl rfl (by decide) fn_ok_33 rfl (c_impl_IsTwoEdges F q0_Size q0_Rows p0_l q0_Rowsv p0_lv hr _ (hM.get 1 rfl) (hM.get 0 rfl)) fun v w a hK hS => ?_)
 obtain ⟨rfl, hN⟩ := hK
 have hM := hM.fra hN.fr
 refine st_val hS rfl rfl (by decide) (rv_assign (hS.ev rfl)) fun a hS => ?_
 refine wpList_nil ?_
 refine hK2 _ _ ?_
 have hS : Sl 7 [(3, (Value.bool r4))] a := hS.sub (sub_cons rfl sub_nil)
 have hM := hM.pick [] (by decide) rfl
 refine wp_ret ?_
 cases hF
 exact hQr _ _ (r_1 hS rfl rfl ⟨rfl, hM.pick [] (by decide) rfl⟩)


theorem c_impl_firstList_c1__FindTwoEdgesc1__always__firstListc1_b (F : Nat) (slf : (List Int) → Int → Int → (List Int) → Int → (List Int) → Option ((Option (List Int)))) (ih : ∀ (p0_l : List Int) (q0_v : Int) (q1_v_c0_Size : Int) (q1_v_c0_Rows : List Int) (q2_Size : Int) (q2_Rows : List Int) (p0_lv : Value) (q0b : Nat) (q1_v_c0_Rowsv : Value) (q1_v_c0b : Nat) (q1b : Nat) (q2_Rowsv : Value) (q2b : Nat) (q3b : Nat) (q4b : Nat) {r : (Option (List Int))} (hF : slf p0_l q0_v q1_v_c0_Size q1_v_c0_Rows q2_Size q2_Rows = some r) (w0 : World) (h0 : RdRow w0 p0_lv (List.map (int i64) p0_l)) (h1 : (bx q0b 3 [(int i64 q0_v)]).P w0) (h2 : RdRow w0 q1_v_c0_Rowsv (List.map (int i64) q1_v_c0_Rows)) (h3 : (bx q1_v_c0b 28 [(int i64 q1_v_c0_Size), q1_v_c0_Rowsv]).P w0) (h4 : (bx q1b 55 [(Value.func (Fn.func 72) #[] #[(fdp q1_v_c0b 0)])]).P w0) (h5 : RdRow w0 q2_Rowsv (List.map (int i64) q2_Rows)) (h6 : (bx q2b 28 [(int i64 q2_Size), q2_Rowsv]).P w0) (h7 : (bx q3b 55 [(Value.func (Fn.func 70) #[] #[])]).P w0) (h8 : (bx q4b 41 [(Value.func (Fn.func 116) #[] #[(fdp q0b 0), (fdp q1b 0), (fdp q2b 0), (fdp q3b 0), (fdp q4b 0)])]).P w0), Calls Try.prog 116 [p0_lv, (fdp q0b 0), (fdp q1b 0), (fdp q2b 0), (fdp q3b 0), (fdp q4b 0)].toArray w0 (retPost fun v w' => OptRow Nob w0 w' 3 v r)) (p0_l : List Int) (q0_v : Int) (q1_v_c0_Size : Int) (q1_v_c0_Rows : List Int) (q2_Size : Int) (q2_Rows : List Int) (p0_lv : Value) (q0b : Nat) (q1_v_c0_Rowsv : Value) (q1_v_c0b : Nat) (q1b : Nat) (q2_Rowsv : Value) (q2b : Nat) (q3b : Nat) (q4b : Nat) {r : (Option (List Int))} (hF : S_impl_firstList_c1__FindTwoEdgesc1__always__firstListc1_b F slf p0_l q0_v q1_v_c0_Size q1_v_c0_Rows q2_Size q2_Rows = some r) (w0 : World) (h0 : RdRow w0 p0_lv (List.map (int i64) p0_l)) (h1 : (bx q0b 3 [(int i64 q0_v)]).P w0) (h2 : RdRow w0 q1_v_c0_Rowsv (List.map (int i64) q1_v_c0_Rows)) (h3 : (bx q1_v_c0b 28 [(int i64 q1_v_c0_Size), q1_v_c0_Rowsv]).P w0) (h4 : (bx q1b 55 [(Value.func (Fn.func 72) #[] #[(fdp q1_v_c0b 0)])]).P w0) (h5 : RdRow w0 q2_Rowsv (List.map (int i64) q2_Rows)) (h6 : (bx q2b 28 [(int i64 q2_Size), q2_Rowsv]).P w0) (h7 : (bx q3b 55 [(Value.func (Fn.func 70) #[] #[])]).P w0) (h8 : (bx q4b 41 [(Value.func (Fn.func 116) #[] #[(fdp q0b 0), (fdp q1b 0), (fdp q2b 0), (fdp q3b 0), (fdp q4b 0)])]).P w0) :
    Calls Try.prog 116 [p0_lv, (fdp q0b 0), (fdp q1b 0), (fdp q2b 0), (fdp q3b 0), (fdp q4b 0)].toArray w0 (retPost fun v w' => OptRow Nob w0 w' 3 v r) := by
 have hM : Mem Nob w0 w0 [(false, rd p0_lv (List.map (int i64) p0_l)), (false, bx q0b 3 [(int i64 q0_v)]), (false, rd q1_v_c0_Rowsv (List.map (int i64) q1_v_c0_Rows)), (false, bx q1_v_c0b 28 [(int i64 q1_v_c0_Size), q1_v_c0_Rowsv]), (false, bx q1b 55 [(Value.func (Fn.func 72) #[] #[(fdp q1_v_c0b 0)])]), (false, rd q2_Rowsv (List.map (int i64) q2_Rows)), (false, bx q2b 28 [(int i64 q2_Size), q2_Rowsv]), (false, bx q3b 55 [(Value.func (Fn.func 70) #[] #[])]), (false, bx q4b 41 [(Value.func (Fn.func 116) #[] #[(fdp q0b 0), (fdp q1b 0), (fdp q2b 0), (fdp q3b 0), (fdp q4b 0)])])] := (Mem.rcons (Mem.gcons (Mem.rcons (Mem.gcons (Mem.gcons (Mem.rcons (Mem.gcons (Mem.gcons (Mem.gcons (Mem.nil w0) h8 (by simp)) h7 (by simp)) h6 (by simp)) h5 (by simp)) h4 (by simp)) h3 (by simp)) h2 (by simp)) h1 (by simp)) h0 (by simp))
 refine enter2 Try.func116 rfl rfl rfl fun Q a hQr hQn hQp hS => ?_
 have hS : Sl 50 [(0, p0_lv), (1, (fdp q0b 0)), (2, (fdp q1b 0)), (3, (fdp q2b 0)), (4, (fdp q3b 0)), (5, (fdp q4b 0))] a := hS
 unfold S_impl_firstList_c1__FindTwoEdgesc1__always__firstListc1_b at hF
 refine wp_seq_k fun K1 hK1 => ?_
 refine wp_region_lit ?_
 refine st_val hS rfl rfl (by decide) (rv_assign (hS.ev rfl)) fun a hS => ?_
 refine wpList_nil ?_
 refine hK1 _ _ ?_
 refine wp_seq_k fun K2 hK2 => ?_
 refine wp_seq_k fun K22 hK22 => ?_
 refine wp_region_lit ?_
 refine st_val hS rfl rfl (by decide) (rv_move (hS.ev rfl)) fun a hS => ?_
 refine st_val hS rfl rfl (by decide) (rv_len_rowM Try.underlying22 (hS.ev rfl) (hM.get 0 rfl)) fun a hS => ?_
 refine st_val hS rfl rfl (by decide) (rv_load_bx (hS.ev rfl) ty_ag_3 (hM.get 1 rfl) rfl) fun a hS => ?_
 refine st_val hS rfl rfl (by decide) (rv_eql (hS.ev rfl) (hS.ev rfl)) fun a hS => ?_
 refine wpList_nil ?_
 refine hK22 _ _ ?_
 rcases ite_some hF with ⟨hc, hF⟩ | ⟨hc, hF⟩
 ·refine cond_t hS rfl hc ?_
  refine wp_seq_k fun K23 hK23 => ?_
  refine wp_seq_k fun K32 hK32 => ?_
  refine wp_region_lit ?_
  refine st_val hS rfl rfl (by decide) (rv_load_bx (hS.ev rfl) ty_ag_55 (hM.get 4 rfl) rfl) fun a hS => ?_
  refine st_val hS rfl rfl (by decide) (rv_move (hS.ev rfl)) fun a hS => ?_
  obtain ⟨r34, hr, hF⟩ := bind_some hF
  refine st_wp hS rfl (wp_callv (vs := [p0_lv]) (cap := [(fdp q1_v_c0b 0)]) hS rfl rfl rfl (by decide) fn_ok_72 rfl (c_impl_FindTwoEdges_c1 F p0_l q1_v_c0_Size q1_v_c0_Rows p0_lv q1_v_c0_Rowsv q1_v_c0b hr _ (hM.get 0 rfl) (hM.get 2 rfl) (hM.get 3 rfl)) fun v w a hK hS => ?_)
  obtain ⟨rfl, hN⟩ := hK
  have hM := hM.fra hN.fr
  refine wpList_nil ?_
  refine hK32 _ _ ?_
  have hS : Sl 50 [(0, p0_lv), (17, (Value.bool r34))] a := hS.sub (sub_cons rfl (sub_cons rfl sub_nil))
  have hM := hM.pick [0] (by decide) rfl
  rcases ite_some hF with ⟨hc, hF⟩ | ⟨hc, hF⟩
  ·refine cond_t hS rfl hc ?_
   refine wp_seq_k fun K35 hK35 => ?_
   refine wp_region_lit ?_
   refine st_val hS rfl rfl (by decide) (rv_move (hS.ev rfl)) fun a hS => ?_
   obtain ⟨r38, hr, hF⟩ := bind_some hF
   refine st_wp hS rfl (wp_call hS rfl rfl (by decide) fn_ok_117 rfl (c_slices_Clone_int F p0_l p0_lv hr _ (hM.get 0 rfl)) fun v39 w a hK hS => ?_)
   have hN := hK
   have hM := hM.add hN rfl
   refine st_val hS rfl rfl (by decide) (rv_assign (hS.ev rfl)) fun a hS => ?_
   refine wpList_nil ?_
   refine hK35 _ _ ?_
   refine wp_ret ?_
   cases hF
   exact hQr _ _ (r_1 hS rfl rfl (hM.pick [0] (by decide) rfl))
  ·refine cond_f hS rfl hc ?_
   refine wp_skip ?_
   refine hK23 _ _ ?_
   refine wp_seq_k fun K40 hK40 => ?_
   refine wp_region_lit ?_
   refine st_val hS rfl rfl (by decide) (rv_assign (hS.ev rfl)) fun a hS => ?_
   refine wpList_nil ?_
   refine hK40 _ _ ?_
   refine wp_ret ?_
   cases hF
   exact hQr _ _ (r_1 hS rfl rfl ⟨rfl, hM.pick [] (by decide) rfl⟩)
 ·refine cond_f hS rfl hc ?_
  refine wp_skip ?_
  refine hK2 _ _ ?_
  refine wp_seq_k fun K41 hK41 => ?_
  have hJ1 : ∀ (a : Act) (w : World), Sl 50 [] a → Mem Nob w0 w [] → S_impl_firstList_c1__FindTwoEdgesc1__always__firstListc1_j1 F = some r → K41 a w := by
   intro a w hS hM hF
   unfold S_impl_firstList_c1__FindTwoEdgesc1__always__firstListc1_j1 at hF
   refine hK41 _ _ ?_
   refine wp_seq_k fun K146 hK146 => ?_
   refine wp_region_lit ?_
   refine st_val hS rfl rfl (by decide) (rv_assign (hS.ev rfl)) fun a hS => ?_
   refine wpList_nil ?_
   refine hK146 _ _ ?_
   refine wp_ret ?_
   cases hF
   exact hQr _ _ (r_1 hS rfl rfl ⟨rfl, hM.pick [] (by decide) rfl⟩)
  refine wp_seq_k fun K147 hK147 => ?_
  refine wp_region_lit ?_
  refine st_val hS rfl rfl (by decide) (rv_fieldAddr ty_fd_28_0 (hS.ev rfl)) fun a hS => ?_
  refine st_val hS rfl rfl (by decide) (rv_load_bx (hS.ev rfl) ty_ag_3 (hM.get 6 rfl) rfl) fun a hS => ?_
  refine st_val hS rfl rfl (by decide) (rv_move (hS.ev rfl)) fun a hS => ?_
  refine wpList_nil ?_
  refine hK147 _ _ ?_
  have hS : Sl 50 [(0, p0_lv), (4, (fdp q3b 0)), (5, (fdp q4b 0)), (21, (int i64 q2_Size)), (22, (int i64 0))] a := hS.sub (sub_cons rfl (sub_cons rfl (sub_cons rfl (sub_cons rfl (sub_cons rfl sub_nil)))))
  refine wp_block ?_
  obtain ⟨lb2, hl2, hF2⟩ := bind_some hF
  refine wp_loop_sh (fun s => S_impl_firstList_c1__FindTwoEdgesc1__always__firstListc1_l2 F p0_l q0_v q1_v_c0_Size q1_v_c0_Rows q2_Size q2_Rows slf s) (fun s a w => Sl 50 [(0, p0_lv), (4, (fdp q3b 0)), (5, (fdp q4b 0)), (21, (int i64 q2_Size)), (22, (int i64 s))] a ∧ Mem Nob w0 w [(false, rd p0_lv (List.map (int i64) p0_l)), (false, bx q3b 55 [(Value.func (Fn.func 70) #[] #[])]), (false, bx q4b 41 [(Value.func (Fn.func 116) #[] #[(fdp q0b 0), (fdp q1b 0), (fdp q2b 0), (fdp q3b 0), (fdp q4b 0)])]), (false, bx q0b 3 [(int i64 q0_v)]), (false, bx q1b 55 [(Value.func (Fn.func 72) #[] #[(fdp q1_v_c0b 0)])]), (false, bx q1_v_c0b 28 [(int i64 q1_v_c0_Size), q1_v_c0_Rowsv]), (false, rd q1_v_c0_Rowsv (List.map (int i64) q1_v_c0_Rows)), (false, bx q2b 28 [(int i64 q2_Size), q2_Rowsv]), (false, rd q2_Rowsv (List.map (int i64) q2_Rows))]) hl2 ⟨(hS.sub (sub_cons rfl (sub_cons rfl (sub_cons rfl (sub_cons rfl (sub_cons rfl sub_nil)))))), (hM.pick [0, 7, 8, 1, 4, 3, 2, 6, 5] (by decide) rfl)⟩ ?_
  rintro K2 x148 a w res2 ⟨hS, hM⟩ hF hN2 hX2
  have hF : S_impl_firstList_c1__FindTwoEdgesc1__always__firstListc1_l2 F p0_l q0_v q1_v_c0_Size q1_v_c0_Rows q2_Size q2_Rows slf x148 = some res2 := hF
  have hS : Sl 50 [(0, p0_lv), (4, (fdp q3b 0)), (5, (fdp q4b 0)), (21, (int i64 q2_Size)), (22, (int i64 x148))] a := hS
  have hM : Mem Nob w0 w [(false, rd p0_lv (List.map (int i64) p0_l)), (false, bx q3b 55 [(Value.func (Fn.func 70) #[] #[])]), (false, bx q4b 41 [(Value.func (Fn.func 116) #[] #[(fdp q0b 0), (fdp q1b 0), (fdp q2b 0), (fdp q3b 0), (fdp q4b 0)])]), (false, bx q0b 3 [(int i64 q0_v)]), (false, bx q1b 55 [(Value.func (Fn.func 72) #[] #[(fdp q1_v_c0b 0)])]), (false, bx q1_v_c0b 28 [(int i64 q1_v_c0_Size), q1_v_c0_Rowsv]), (false, rd q1_v_c0_Rowsv (List.map (int i64) q1_v_c0_Rows)), (false, bx q2b 28 [(int i64 q2_Size), q2_Rowsv]), (false, rd q2_Rowsv (List.map (int i64) q2_Rows))] := hM
  unfold S_impl_firstList_c1__FindTwoEdgesc1__always__firstListc1_l2 at hF
  refine wp_seq_k fun K200 hK200 => ?_
  refine wp_region_lit ?_
  refine st_val hS rfl rfl (by decide) (rv_lss (hS.ev rfl) (hS.ev rfl)) fun a hS => ?_
  refine wpList_nil ?_
  refine hK200 _ _ ?_
  refine wp_seq_k fun K201 hK201 => ?_
  rcases ite_some hF with ⟨hc, hF⟩ | ⟨hc, hF⟩
  ·refine cond_t hS rfl hc ?_
   refine wp_skip ?_
   refine hK201 _ _ ?_
   refine wp_seq_k fun K202 hK202 => ?_
   have hJ3 : ∀ (a : Act) (w : World), Sl 50 [(0, p0_lv), (4, (fdp q3b 0)), (5, (fdp q4b 0)), (21, (int i64 q2_Size)), (22, (int i64 x148))] a → Mem Nob w0 w [(false, rd p0_lv (List.map (int i64) p0_l)), (false, bx q3b 55 [(Value.func (Fn.func 70) #[] #[])]), (false, bx q4b 41 [(Value.func (Fn.func 116) #[] #[(fdp q0b 0), (fdp q1b 0), (fdp q2b 0), (fdp q3b 0), (fdp q4b 0)])]), (false, bx q0b 3 [(int i64 q0_v)]), (false, bx q1b 55 [(Value.func (Fn.func 72) #[] #[(fdp q1_v_c0b 0)])]), (false, bx q1_v_c0b 28 [(int i64 q1_v_c0_Size), q1_v_c0_Rowsv]), (false, rd q1_v_c0_Rowsv (List.map (int i64) q1_v_c0_Rows)), (false, bx q2b 28 [(int i64 q2_Size), q2_Rowsv]), (false, rd q2_Rowsv (List.map (int i64) q2_Rows))] → S_impl_firstList_c1__FindTwoEdgesc1__always__firstListc1_j3 F x148 = some res2 → K202 a w := by
    intro a w hS hM hF
    unfold S_impl_firstList_c1__FindTwoEdgesc1__always__firstListc1_j3 at hF
    refine hK202 _ _ ?_
    refine wp_region_lit ?_
    refine st_val hS rfl rfl (by decide) (rv_add (hS.ev rfl) (hS.ev rfl)) fun a hS => ?_
    refine st_val hS rfl rfl (by decide) (rv_move (hS.ev rfl)) fun a hS => ?_
    refine wpList_nil ?_
    cases hF
    exact hN2 _ _ _ rfl ⟨(hS.sub (sub_cons rfl (sub_cons rfl (sub_cons rfl (sub_cons rfl (sub_cons rfl sub_nil)))))), (hM.pick [0, 1, 2, 3, 4, 5, 6, 7, 8] (by decide) rfl)⟩
   refine wp_block ?_
   refine wp_seq_k fun K227 hK227 => ?_
   refine wp_region_lit ?_
   refine st_val hS rfl rfl (by decide) (rv_move (hS.ev rfl)) fun a hS => ?_
   refine st_val hS rfl rfl (by decide) (rv_assign (hS.ev rfl)) fun a hS => ?_
   refine wpList_nil ?_
   refine hK227 _ _ ?_
   refine wp_seq_k fun K228 hK228 => ?_
   refine wp_region_lit ?_
   refine st_val hS rfl rfl (by decide) (rv_move (hS.ev rfl)) fun a hS => ?_
   refine st_val hS rfl rfl (by decide) (rv_move (hS.ev rfl)) fun a hS => ?_
   refine st_val hS rfl rfl (by decide) (rv_len_rowM Try.underlying22 (hS.ev rfl) (hM.get 0 rfl)) fun a hS => ?_
   refine st_val hS rfl rfl (by decide) (rv_move (hS.ev rfl)) fun a hS => ?_
   refine st_val hS rfl rfl (by decide) (rv_len_rowM Try.underlying22 (hS.ev rfl) (hM.get 0 rfl)) fun a hS => ?_
   obtain ⟨_, hx, hF⟩ := bind_some hF
   have hj232 := slO_some hx
   refine st_val hS rfl rfl (by decide) (rv_slF Try.underlying22 ty_el_3 (hS.ev rfl) (hS.ev rfl) (hS.ev rfl) (hM.get 0 rfl) hj232.1 (map_le hj232.2)) fun a hS => ?_
   refine st_val hS rfl rfl (by decide) (rv_move (hS.ev rfl)) fun a hS => ?_
   obtain ⟨v233, w, hr, hM⟩ := Mem.litE (f := (int i64)) (dst := some 32) (ty := _) (pos := _) (af := _) (gd := _) (ps := [(0, .tmp 31)]) ([x148] : List (Int)) i64_one hM hS Try.underlying22 ty_el_3 rfl rfl rfl rfl
   refine st_val hS rfl rfl (by decide) hr fun a hS => ?_
   obtain ⟨_, hx, hF⟩ := bind_some hF
   obtain ⟨v234, w, hr, hM⟩ := Mem.appF (f := (int i64)) (ρ := a.eval) (dst := some 33) (ty := _) (pos := _) (af := _) (gd := _) (x := .tmp 30) (y := .tmp 32) i64_one hM Try.underlying22 ty_el_3 rfl (by decide) (hS.ev rfl) (hM.get 1 rfl) hj232.1 hj232.2 (hS.ev rfl) (rd_of_ow (hM.get 0 rfl)) (by simp) (catO_some hx)
   refine st_val hS rfl rfl (by decide) hr fun a hS => ?_
   refine st_val hS rfl rfl (by decide) (rv_assign (hS.ev rfl)) fun a hS => ?_
   refine wpList_nil ?_
   refine hK228 _ _ ?_
   have hS : Sl 50 [(0, p0_lv), (4, (fdp q3b 0)), (5, (fdp q4b 0)), (8, (int i64 x148)), (9, v234), (21, (int i64 q2_Size)), (22, (int i64 x148))] a := hS.sub (sub_cons rfl (sub_cons rfl (sub_cons rfl (sub_cons rfl (sub_cons rfl (sub_cons rfl (sub_cons rfl sub_nil)))))))
   have hM := hM.pick [0, 2, 3, 4, 5, 6, 7, 8, 9, 10] (by decide) rfl
   refine wp_seq_k fun K235 hK235 => ?_
   have hJ4 : ∀ (p238 : Bool) (a : Act) (w : World), Sl 50 [(0, p0_lv), (4, (fdp q3b 0)), (5, (fdp q4b 0)), (9, v234), (21, (int i64 q2_Size)), (22, (int i64 x148)), (42, (Value.bool p238))] a → Mem Nob w0 w [(false, rd p0_lv (List.map (int i64) p0_l)), (false, bx q3b 55 [(Value.func (Fn.func 70) #[] #[])]), (false, bx q4b 41 [(Value.func (Fn.func 116) #[] #[(fdp q0b 0), (fdp q1b 0), (fdp q2b 0), (fdp q3b 0), (fdp q4b 0)])]), (false, bx q0b 3 [(int i64 q0_v)]), (false, bx q1b 55 [(Value.func (Fn.func 72) #[] #[(fdp q1_v_c0b 0)])]), (false, bx q1_v_c0b 28 [(int i64 q1_v_c0_Size), q1_v_c0_Rowsv]), (false, rd q1_v_c0_Rowsv (List.map (int i64) q1_v_c0_Rows)), (false, bx q2b 28 [(int i64 q2_Size), q2_Rowsv]), (false, rd q2_Rowsv (List.map (int i64) q2_Rows)), (true, ow 3 v234 (List.map (int i64) (p0_l.take ((p0_l.length : Int).toNat) ++ ([x148] : List (Int)))))] → S_impl_firstList_c1__FindTwoEdgesc1__always__firstListc1_j4 F p0_l q0_v q1_v_c0_Size q1_v_c0_Rows q2_Size q2_Rows slf x148 p238 = some res2 → K235 a w := by
    intro p238 a w hS hM hF
    unfold S_impl_firstList_c1__FindTwoEdgesc1__always__firstListc1_j4 at hF
    refine hK235 _ _ ?_
    rcases ite_some hF with ⟨hc, hF⟩ | ⟨hc, hF⟩
    ·refine cond_t hS rfl hc ?_
     refine wp_seq_k fun K239 hK239 => ?_
     refine wp_region_lit ?_
     refine st_val hS rfl rfl (by decide) (rv_load_bx (hS.ev rfl) ty_ag_41 (hM.get 2 rfl) rfl) fun a hS => ?_
     refine st_val hS rfl rfl (by decide) (rv_move (hS.ev rfl)) fun a hS => ?_
     obtain ⟨r243, hr, hF⟩ := bind_some hF
     refine st_wp hS rfl (wp_callv (vs := [v234]) (cap := [(fdp q0b 0), (fdp q1b 0), (fdp q2b 0), (fdp q3b 0), (fdp q4b 0)]) hS rfl rfl rfl (by decide) fn_ok_116 rfl (ih (p0_l.take ((p0_l.length : Int).toNat) ++ ([x148] : List (Int))) q0_v q1_v_c0_Size q1_v_c0_Rows q2_Size q2_Rows v234 q0b q1_v_c0_Rowsv q1_v_c0b q1b q2_Rowsv q2b q3b q4b hr _ (rd_of_ow (hM.get 9 rfl)) (hM.get 3 rfl) (hM.get 6 rfl) (hM.get 5 rfl) (hM.get 4 rfl) (hM.get 8 rfl) (hM.get 7 rfl) (hM.get 1 rfl) (hM.get 2 rfl)) fun v244 w a hK hS => ?_)
     rcases r243 with _ | c245
     ·dsimp only at hF
      obtain ⟨rfl, hN⟩ := hK
      have hM := hM.fra hN.fr
      refine st_val hS rfl rfl (by decide) (rv_assign (hS.ev rfl)) fun a hS => ?_
      refine wpList_nil ?_
      refine hK239 _ _ ?_
      refine wp_seq_k fun K246 hK246 => ?_
      refine wp_region_lit ?_
      refine st_val hS rfl rfl (by decide) (rv_move (hS.ev rfl)) fun a hS => ?_
      refine st_val hS rfl rfl (by decide) (rv_nil_neq Try.underlying22 (hS.ev rfl) (hS.ev rfl)) fun a hS => ?_
      refine wpList_nil ?_
      refine hK246 _ _ ?_
      refine cond_f hS rfl rfl ?_
      refine wp_skip ?_
      exact hJ3 _ _ (hS.sub (sub_cons rfl (sub_cons rfl (sub_cons rfl (sub_cons rfl (sub_cons rfl sub_nil)))))) (hM.pick [0, 1, 2, 3, 4, 5, 6, 7, 8] (by decide) rfl) hF
     ·dsimp only at hF
      have hN : Mem Nob _ w [(true, ow 3 v244 (List.map (int i64) c245))] := hK
      have hM := hM.add hN rfl
      refine st_val hS rfl rfl (by decide) (rv_assign (hS.ev rfl)) fun a hS => ?_
      refine wpList_nil ?_
      refine hK239 _ _ ?_
      refine wp_seq_k fun K247 hK247 => ?_
      refine wp_region_lit ?_
      refine st_val hS rfl rfl (by decide) (rv_move (hS.ev rfl)) fun a hS => ?_
      obtain ⟨_, hx, hF⟩ := bind_some hF
      have hi0 := neO_some hx
      refine st_val hS rfl rfl (by decide) (rv_neq_nil Try.underlying22 (hS.ev rfl) (hS.ev rfl) (rd_of_ow (hM.get 0 rfl)) hi0) fun a hS => ?_
      refine wpList_nil ?_
      refine hK247 _ _ ?_
      refine cond_t hS rfl rfl ?_
      refine wp_seq_k fun K248 hK248 => ?_
      refine wp_region_lit ?_
      refine st_val hS rfl rfl (by decide) (rv_move (hS.ev rfl)) fun a hS => ?_
      refine st_val hS rfl rfl (by decide) (rv_assign (hS.ev rfl)) fun a hS => ?_
      refine wpList_nil ?_
      refine hK248 _ _ ?_
      have hS : Sl 50 [(7, v244)] a := hS.sub (sub_cons rfl sub_nil)
      have hM := hM.pick [0] (by decide) rfl
      refine wp_ret ?_
      cases hF
      have e := hX2 _ rfl
      subst e
      have hF := hF2
      cases hF
      exact hQr _ _ (r_1 hS rfl rfl (hM.pick [0] (by decide) rfl))
    ·refine cond_f hS rfl hc ?_
     refine wp_skip ?_
     exact hJ3 _ _ (hS.sub (sub_cons rfl (sub_cons rfl (sub_cons rfl (sub_cons rfl (sub_cons rfl sub_nil)))))) (hM.pick [0, 1, 2, 3, 4, 5, 6, 7, 8] (by decide) rfl) hF
   refine wp_region_lit ?_
   refine st_val hS rfl rfl (by decide) (rv_move (hS.ev rfl)) fun a hS => ?_
   refine st_val hS rfl rfl (by decide) (rv_move (hS.ev rfl)) fun a hS => ?_
   obtain ⟨r249, hr, hF⟩ := bind_some hF
   refine st_wp hS rfl (wp_call hS rfl rfl (by decide) fn_ok_106 rfl (c_slices_Contains_int F p0_l x148 p0_lv hr _ (hM.get 1 rfl)) fun v w a hK hS => ?_)
   obtain ⟨rfl, hN⟩ := hK
   have hM := hM.fra hN.fr
   refine st_val hS rfl rfl (by decide) (rv_not (hS.ev rfl)) fun a hS => ?_
   refine st_val hS rfl rfl (by decide) (rv_move (hS.ev rfl)) fun a hS => ?_
   rcases ite_some hF with ⟨hc, hF⟩ | ⟨hc, hF⟩
   ·have hS := hS.setb (t := 38) rfl hc
    refine st_val hS rfl rfl (by decide) (rv_load_bx (hS.ev rfl) ty_ag_55 (hM.get 2 rfl) rfl) fun a hS => ?_
    refine st_val hS rfl rfl (by decide) (rv_move (hS.ev rfl)) fun a hS => ?_
    obtain ⟨r250, hr, hF⟩ := bind_some hF
    refine st_wp hS rfl (wp_callv (vs := [v234]) (cap := []) hS rfl rfl rfl (by decide) fn_ok_70 rfl (c_impl_always F (p0_l.take ((p0_l.length : Int).toNat) ++ ([x148] : List (Int))) v234 hr _ (rd_of_ow (hM.get 0 rfl))) fun v w a hK hS => ?_)
    obtain ⟨rfl, hN⟩ := hK
    have hM := hM.fra hN.fr
    refine st_val hS rfl rfl (by decide) (rv_pick_t (hS.ev rfl) (hS.ev rfl)) fun a hS => ?_
    refine wpList_nil ?_
    exact hJ4 r250 _ _ (hS.sub (sub_cons rfl (sub_cons rfl (sub_cons rfl (sub_cons rfl (sub_cons rfl (sub_cons rfl (sub_cons rfl sub_nil)))))))) (hM.pick [1, 2, 3, 4, 5, 6, 7, 8, 9, 0] (by decide) rfl) hF
   ·have hS := hS.setb (t := 38) rfl hc
    refine st_skip hS rfl rfl (by decide) fun a hS => ?_
    refine st_skip hS rfl rfl (by decide) fun a hS => ?_
    refine st_skip hS rfl rfl (by decide) fun a hS => ?_
    refine st_val hS rfl rfl (by decide) (rv_pick_f (hS.ev rfl) (hS.ev rfl)) fun a hS => ?_
    refine wpList_nil ?_
    exact hJ4 false _ _ (hS.sub (sub_cons rfl (sub_cons rfl (sub_cons rfl (sub_cons rfl (sub_cons rfl (sub_cons rfl (sub_cons rfl sub_nil)))))))) (hM.pick [1, 2, 3, 4, 5, 6, 7, 8, 9, 0] (by decide) rfl) hF
  ·refine cond_f hS rfl hc ?_
   refine wp_exit ?_
   cases hF
   exact hJ1 _ _ (hS.sub sub_nil) (hM.pick [] (by decide) rfl) (by have e := hX2 _ rfl; subst e; exact hF2)

theorem c_impl_firstList_c1__FindTwoEdgesc1__always__firstListc1_d (F : Nat) : ∀ (D : Nat) (p0_l : List Int) (q0_v : Int) (q1_v_c0_Size : Int) (q1_v_c0_Rows : List Int) (q2_Size : Int) (q2_Rows : List Int) (p0_lv : Value) (q0b : Nat) (q1_v_c0_Rowsv : Value) (q1_v_c0b : Nat) (q1b : Nat) (q2_Rowsv : Value) (q2b : Nat) (q3b : Nat) (q4b : Nat) {r : (Option (List Int))} (hF : S_impl_firstList_c1__FindTwoEdgesc1__always__firstListc1_d F D p0_l q0_v q1_v_c0_Size q1_v_c0_Rows q2_Size q2_Rows = some r) (w0 : World) (h0 : RdRow w0 p0_lv (List.map (int i64) p0_l)) (h1 : (bx q0b 3 [(int i64 q0_v)]).P w0) (h2 : RdRow w0 q1_v_c0_Rowsv (List.map (int i64) q1_v_c0_Rows)) (h3 : (bx q1_v_c0b 28 [(int i64 q1_v_c0_Size), q1_v_c0_Rowsv]).P w0) (h4 : (bx q1b 55 [(Value.func (Fn.func 72) #[] #[(fdp q1_v_c0b 0)])]).P w0) (h5 : RdRow w0 q2_Rowsv (List.map (int i64) q2_Rows)) (h6 : (bx q2b 28 [(int i64 q2_Size), q2_Rowsv]).P w0) (h7 : (bx q3b 55 [(Value.func (Fn.func 70) #[] #[])]).P w0) (h8 : (bx q4b 41 [(Value.func (Fn.func 116) #[] #[(fdp q0b 0), (fdp q1b 0), (fdp q2b 0), (fdp q3b 0), (fdp q4b 0)])]).P w0), Calls Try.prog 116 [p0_lv, (fdp q0b 0), (fdp q1b 0), (fdp q2b 0), (fdp q3b 0), (fdp q4b 0)].toArray w0 (retPost fun v w' => OptRow Nob w0 w' 3 v r) := by
  intro D
  induction D with
  | zero =>
    intro p0_l q0_v q1_v_c0_Size q1_v_c0_Rows q2_Size q2_Rows p0_lv q0b q1_v_c0_Rowsv q1_v_c0b q1b q2_Rowsv q2b q3b q4b r hF
    simp [S_impl_firstList_c1__FindTwoEdgesc1__always__firstListc1_d] at hF
  | succ D ih =>
    intro p0_l q0_v q1_v_c0_Size q1_v_c0_Rows q2_Size q2_Rows p0_lv q0b q1_v_c0_Rowsv q1_v_c0b q1b q2_Rowsv q2b q3b q4b r hF w0 h0 h1 h2 h3 h4 h5 h6 h7 h8
    rw [S_impl_firstList_c1__FindTwoEdgesc1__always__firstListc1_d] at hF
    exact c_impl_firstList_c1__FindTwoEdgesc1__always__firstListc1_b F (S_impl_firstList_c1__FindTwoEdgesc1__always__firstListc1_d F D) ih p0_l q0_v q1_v_c0_Size q1_v_c0_Rows q2_Size q2_Rows p0_lv q0b q1_v_c0_Rowsv q1_v_c0b q1b q2_Rowsv q2b q3b q4b hF w0 h0 h1 h2 h3 h4 h5 h6 h7 h8

theorem c_impl_firstList_c1__FindTwoEdgesc1__always__firstListc1 (F : Nat) (p0_l : List Int) (q0_v : Int) (q1_v_c0_Size : Int) (q1_v_c0_Rows : List Int) (q2_Size : Int) (q2_Rows : List Int) (p0_lv : Value) (q0b : Nat) (q1_v_c0_Rowsv : Value) (q1_v_c0b : Nat) (q1b : Nat) (q2_Rowsv : Value) (q2b : Nat) (q3b : Nat) (q4b : Nat) {r : (Option (List Int))} (hF : S_impl_firstList_c1__FindTwoEdgesc1__always__firstListc1 F p0_l q0_v q1_v_c0_Size q1_v_c0_Rows q2_Size q2_Rows = some r) (w0 : World) (h0 : RdRow w0 p0_lv (List.map (int i64) p0_l)) (h1 : (bx q0b 3 [(int i64 q0_v)]).P w0) (h2 : RdRow w0 q1_v_c0_Rowsv (List.map (int i64) q1_v_c0_Rows)) (h3 : (bx q1_v_c0b 28 [(int i64 q1_v_c0_Size), q1_v_c0_Rowsv]).P w0) (h4 : (bx q1b 55 [(Value.func (Fn.func 72) #[] #[(fdp q1_v_c0b 0)])]).P w0) (h5 : RdRow w0 q2_Rowsv (List.map (int i64) q2_Rows)) (h6 : (bx q2b 28 [(int i64 q2_Size), q2_Rowsv]).P w0) (h7 : (bx q3b 55 [(Value.func (Fn.func 70) #[] #[])]).P w0) (h8 : (bx q4b 41 [(Value.func (Fn.func 116) #[] #[(fdp q0b 0), (fdp q1b 0), (fdp q2b 0), (fdp q3b 0), (fdp q4b 0)])]).P w0) : Calls Try.prog 116 [p0_lv, (fdp q0b 0), (fdp q1b 0), (fdp q2b 0), (fdp q3b 0), (fdp q4b 0)].toArray w0 (retPost fun v w' => OptRow Nob w0 w' 3 v r) :=
  c_impl_firstList_c1__FindTwoEdgesc1__always__firstListc1_d F F p0_l q0_v q1_v_c0_Size q1_v_c0_Rows q2_Size q2_Rows p0_lv q0b q1_v_c0_Rowsv q1_v_c0b q1b q2_Rowsv q2b q3b q4b hF w0 h0 h1 h2 h3 h4 h5 h6 h7 h8


theorem c_impl_firstList__always__FindTwoEdgesc1 (F : Nat) (p0_g_Size : Int) (p0_g_Rows : List Int) (p1_n : Int) (p3_holds_c0_Size : Int) (p3_holds_c0_Rows : List Int) (p0_g_Rowsv : Value) (p3_holds_c0_Rowsv : Value) (p3_holds_c0b : Nat) {r : (List (Int)) × Bool} (hF : S_impl_firstList__always__FindTwoEdgesc1 F p0_g_Size p0_g_Rows p1_n p3_holds_c0_Size p3_holds_c0_Rows = some r) (w0 : World) (h0 : RdRow w0 p0_g_Rowsv (List.map (int i64) p0_g_Rows)) (h1 : RdRow w0 p3_holds_c0_Rowsv (List.map (int i64) p3_holds_c0_Rows)) (h2 : (bx p3_holds_c0b 28 [(int i64 p3_holds_c0_Size), p3_holds_c0_Rowsv]).P w0) :
    Calls Try.prog 69 [(Value.agg #[(int i64 p0_g_Size), p0_g_Rowsv]), (int i64 p1_n), (Value.func (Fn.func 70) #[] #[]), (Value.func (Fn.func 72) #[] #[(fdp p3_holds_c0b 0)])].toArray w0 (retPost fun v w' => ∃ v32, v = (Value.tuple #[v32, (Value.bool r.2)]) ∧ Mem Nob w0 w' [(true, ow 3 v32 (List.map (int i64) r.1))]) := by
 have hM : Mem Nob w0 w0 [(false, rd p0_g_Rowsv (List.map (int i64) p0_g_Rows)), (false, rd p3_holds_c0_Rowsv (List.map (int i64) p3_holds_c0_Rows)), (false, bx p3_holds_c0b 28 [(int i64 p3_holds_c0_Size), p3_holds_c0_Rowsv])] := (Mem.rcons (Mem.rcons (Mem.gcons (Mem.nil w0) h2 (by simp)) h1 (by simp)) h0 (by simp))
 refine enter2 Try.func69 rfl rfl rfl fun Q a hQr hQn hQp hS => ?_
 have hS : Sl 21 [(0, (Value.agg #[(int i64 p0_g_Size), p0_g_Rowsv])), (1, (int i64 p1_n)), (2, (Value.func (Fn.func 70) #[] #[])), (3, (Value.func (Fn.func 72) #[] #[(fdp p3_holds_c0b 0)]))] a := hS
 unfold S_impl_firstList__always__FindTwoEdgesc1 at hF
 refine wp_seq_k fun K1 hK1 => ?_
 refine wp_region_lit ?_
 obtain ⟨b6, w, hr, hM⟩ := hM.boxE (ρ := a.eval) (dst := some 4) (ty := _) (pos := _) (af := _) (gd := _) (x := .tmp 0) (T := 28) [(int i64 p0_g_Size), p0_g_Rowsv] (hS.ev rfl) rfl
 refine st_val hS rfl rfl (by decide) hr fun a hS => ?_
 obtain ⟨b7, w, hr, hM⟩ := hM.boxE (ρ := a.eval) (dst := some 5) (ty := _) (pos := _) (af := _) (gd := _) (x := .tmp 1) (T := 3) [(int i64 p1_n)] (hS.ev rfl) rfl
 refine st_val hS rfl rfl (by decide) hr fun a hS => ?_
 obtain ⟨b8, w, hr, hM⟩ := hM.boxE (ρ := a.eval) (dst := some 6) (ty := _) (pos := _) (af := _) (gd := _) (x := .tmp 2) (T := 55) [(Value.func (Fn.func 70) #[] #[])] (hS.ev rfl) rfl
 refine st_val hS rfl rfl (by decide) hr fun a hS => ?_
 obtain ⟨b9, w, hr, hM⟩ := hM.boxE (ρ := a.eval) (dst := some 7) (ty := _) (pos := _) (af := _) (gd := _) (x := .tmp 3) (T := 55) [(Value.func (Fn.func 72) #[] #[(fdp p3_holds_c0b 0)])] (hS.ev rfl) rfl
 refine st_val hS rfl rfl (by decide) hr fun a hS => ?_
 refine st_val hS rfl rfl (by decide) (rv_assign (hS.ev rfl)) fun a hS => ?_
 refine st_val hS rfl rfl (by decide) (rv_assign (hS.ev rfl)) fun a hS => ?_
 refine wpList_nil ?_
 refine hK1 _ _ ?_
 refine wp_seq_k fun K10 hK10 => ?_
 refine wp_region_lit ?_
 obtain ⟨b12, w, hr, hM⟩ := hM.allocE (ρ := a.eval) (dst := some 10) (ty := _) (pos := _) (af := _) (gd := _) (T := 41) (P := Try.prog) [Value.nilFunc] ty_zr_41 rfl
 refine st_val hS rfl rfl (by decide) hr fun a hS => ?_
 refine wpList_nil ?_
 refine hK10 _ _ ?_
 refine wp_seq_k fun K13 hK13 => ?_
 refine wp_region_lit ?_
 refine st_val hS rfl rfl (by decide) (rv_makeFunc hS rfl) fun a hS => ?_
 obtain ⟨w, hr, hM⟩ := hM.st_bx1 (n := 0) (cs' := [(Value.func (Fn.func 116) #[] #[(fdp b7 0), (fdp b9 0), (fdp b6 0), (fdp b8 0), (fdp b12 0)])]) (ρ := a.eval) (dst := none) (ty := _) (pos := _) (af := _) (gd := _) (x := .tmp 10) (y := .tmp 12) (hS.ev rfl) (hS.ev rfl) ty_sz_41 rfl rfl rfl
 refine st_unit hS rfl rfl hr ?_
 refine wpList_nil ?_
 refine hK13 _ _ ?_
 have hS : Sl 21 [(4, (fdp b6 0)), (10, (fdp b12 0))] a := hS.sub (sub_cons rfl (sub_cons rfl sub_nil))
 refine wp_seq_k fun K14 hK14 => ?_
 refine wp_seq_k fun K19 hK19 => ?_
 refine wp_region_lit ?_
 refine st_val hS rfl rfl (by decide) (rv_load_agg (hS.ev rfl) ty_ag_28 (hM.get 4 rfl) ty_sz_28) fun a hS => ?_
 obtain ⟨r21, hr, hF⟩ := bind_some hF
 refine st_wp hS rfl (wp_call hS rfl rfl (by decide) fn_ok_110 rfl (c_impl_IsGraph F p0_g_Size p0_g_Rows p0_g_Rowsv hr _ (hM.get 5 rfl)) fun v w a hK hS => ?_)
 obtain ⟨rfl, hN⟩ := hK
 have hM := hM.fra hN.fr
 refine st_val hS rfl rfl (by decide) (rv_not (hS.ev rfl)) fun a hS => ?_
 refine wpList_nil ?_
 refine hK19 _ _ ?_
 rcases ite_some hF with ⟨hc, hF⟩ | ⟨hc, hF⟩
 ·refine cond_t hS rfl hc ?_
  refine wp_seq_k fun K22 hK22 => ?_
  refine wp_region_lit ?_
  refine st_val hS rfl rfl (by decide) (rv_assign (hS.ev rfl)) fun a hS => ?_
  refine st_val hS rfl rfl (by decide) (rv_assign (hS.ev rfl)) fun a hS => ?_
  refine wpList_nil ?_
  refine hK22 _ _ ?_
  have hS : Sl 21 [(8, (Value.slice none 0 0)), (9, (Value.bool false))] a := hS.sub (sub_cons rfl (sub_cons rfl sub_nil))
  have hM := hM.pick [] (by decide) rfl
  refine wp_ret ?_
  cases hF
  have hM := hM.addNil 3
  exact hQr _ _ (r_2 hS rfl rfl rfl ⟨(Value.slice none 0 0), rfl, hM.pick [0] (by decide) rfl⟩)
 ·refine cond_f hS rfl hc ?_
  refine wp_skip ?_
  refine hK14 _ _ ?_
  refine wp_seq_k fun K23 hK23 => ?_
  refine wp_region_lit ?_
  refine st_val hS rfl rfl (by decide) (rv_load_bx (hS.ev rfl) ty_ag_41 (hM.get 0 rfl) rfl) fun a hS => ?_
  have hM := hM.addNil 3
  obtain ⟨r27, hr, hF⟩ := bind_some hF
  refine st_wp hS rfl (wp_callv (vs := [(Value.slice none 0 0)]) (cap := [(fdp b7 0), (fdp b9 0), (fdp b6 0), (fdp b8 0), (fdp b12 0)]) hS rfl rfl rfl (by decide) fn_ok_116 rfl (c_impl_firstList_c1__FindTwoEdgesc1__always__firstListc1 F ([] : List (Int)) p1_n p3_holds_c0_Size p3_holds_c0_Rows p0_g_Size p0_g_Rows (Value.slice none 0 0) b7 p3_holds_c0_Rowsv p3_holds_c0b b9 p0_g_Rowsv b6 b8 b12 hr _ (rd_of_ow (hM.get 0 rfl)) (hM.get 4 rfl) (hM.get 7 rfl) (hM.get 8 rfl) (hM.get 2 rfl) (hM.get 6 rfl) (hM.get 5 rfl) (hM.get 3 rfl) (hM.get 1 rfl)) fun v28 w a hK hS => ?_)
  rcases r27 with _ | c29
  ·dsimp only at hF
   obtain ⟨rfl, hN⟩ := hK
   have hM := hM.fra hN.fr
   refine st_val hS rfl rfl (by decide) (rv_assign (hS.ev rfl)) fun a hS => ?_
   refine wpList_nil ?_
   refine hK23 _ _ ?_
   have hS : Sl 21 [(11, (Value.slice none 0 0))] a := hS.sub (sub_cons rfl sub_nil)
   have hM := hM.pick [] (by decide) rfl
   refine wp_seq_k fun K30 hK30 => ?_
   refine wp_region_lit ?_
   refine st_val hS rfl rfl (by decide) (rv_move (hS.ev rfl)) fun a hS => ?_
   refine st_val hS rfl rfl (by decide) (rv_move (hS.ev rfl)) fun a hS => ?_
   refine st_val hS rfl rfl (by decide) (rv_nil_neq Try.underlying22 (hS.ev rfl) (hS.ev rfl)) fun a hS => ?_
   refine st_val hS rfl rfl (by decide) (rv_assign (hS.ev rfl)) fun a hS => ?_
   refine st_val hS rfl rfl (by decide) (rv_assign (hS.ev rfl)) fun a hS => ?_
   refine wpList_nil ?_
   refine hK30 _ _ ?_
   refine wp_ret ?_
   cases hF
   have hM := hM.addNil 3
   exact hQr _ _ (r_2 hS rfl rfl rfl ⟨(Value.slice none 0 0), rfl, hM.pick [0] (by decide) rfl⟩)
  ·dsimp only at hF
   have hN : Mem Nob _ w [(true, ow 3 v28 (List.map (int i64) c29))] := hK
   have hM := hM.add hN rfl
   refine st_val hS rfl rfl (by decide) (rv_assign (hS.ev rfl)) fun a hS => ?_
   refine wpList_nil ?_
   refine hK23 _ _ ?_
   have hS : Sl 21 [(11, v28)] a := hS.sub (sub_cons rfl sub_nil)
   have hM := hM.pick [0] (by decide) rfl
   refine wp_seq_k fun K31 hK31 => ?_
   refine wp_region_lit ?_
   refine st_val hS rfl rfl (by decide) (rv_move (hS.ev rfl)) fun a hS => ?_
   refine st_val hS rfl rfl (by decide) (rv_move (hS.ev rfl)) fun a hS => ?_
   obtain ⟨_, hx, hF⟩ := bind_some hF
   have hi0 := neO_some hx
   refine st_val hS rfl rfl (by decide) (rv_neq_nil Try.underlying22 (hS.ev rfl) (hS.ev rfl) (rd_of_ow (hM.get 0 rfl)) hi0) fun a hS => ?_
   refine st_val hS rfl rfl (by decide) (rv_assign (hS.ev rfl)) fun a hS => ?_
   refine st_val hS rfl rfl (by decide) (rv_assign (hS.ev rfl)) fun a hS => ?_
   refine wpList_nil ?_
   refine hK31 _ _ ?_
   refine wp_ret ?_
   cases hF
   exact hQr _ _ (r_2 hS rfl rfl rfl ⟨v28, rfl, hM.pick [0] (by decide) rfl⟩)


theorem c_impl_FindTwoEdges (F : Nat) (p0_g_Size : Int) (p0_g_Rows : List Int) (p0_g_Rowsv : Value) {r : (List (Int)) × Bool} (hF : S_impl_FindTwoEdges F p0_g_Size p0_g_Rows = some r) (w0 : World) (h0 : RdRow w0 p0_g_Rowsv (List.map (int i64) p0_g_Rows)) :
    Calls Try.prog 19 [(Value.agg #[(int i64 p0_g_Size), p0_g_Rowsv])].toArray w0 (retPost fun v w' => ∃ v9, v = (Value.tuple #[v9, (Value.bool r.2)]) ∧ Mem Nob w0 w' [(true, ow 3 v9 (List.map (int i64) r.1))]) := by
 have hM : Mem Nob w0 w0 [(false, rd p0_g_Rowsv (List.map (int i64) p0_g_Rows))] := (Mem.rcons (Mem.nil w0) h0 (by simp))
 refine enter2 Try.func19 rfl rfl rfl fun Q a hQr hQn hQp hS => ?_
 have hS : Sl 9 [(0, (Value.agg #[(int i64 p0_g_Size), p0_g_Rowsv]))] a := hS
 unfold S_impl_FindTwoEdges at hF
 refine wp_seq_k fun K1 hK1 => ?_
 refine wp_region_lit ?_
 obtain ⟨b3, w, hr, hM⟩ := hM.boxE (ρ := a.eval) (dst := some 1) (ty := _) (pos := _) (af := _) (gd := _) (x := .tmp 0) (T := 28) [(int i64 p0_g_Size), p0_g_Rowsv] (hS.ev rfl) rfl
 refine st_val hS rfl rfl (by decide) hr fun a hS => ?_
 refine st_val hS rfl rfl (by decide) (rv_assign (hS.ev rfl)) fun a hS => ?_
 refine st_val hS rfl rfl (by decide) (rv_assign (hS.ev rfl)) fun a hS => ?_
 refine wpList_nil ?_
 refine hK1 _ _ ?_
 refine wp_seq_k fun K4 hK4 => ?_
 refine wp_region_lit ?_
 refine st_val hS rfl rfl (by decide) (rv_load_agg (hS.ev rfl) ty_ag_28 (hM.get 0 rfl) ty_sz_28) fun a hS => ?_
 refine st_val hS rfl rfl (by decide) (rv_makeFunc hS rfl) fun a hS => ?_
 obtain ⟨r7, hr, hF⟩ := bind_some hF
 refine st_wp hS rfl (wp_call hS rfl rfl (by decide) fn_ok_69 rfl (c_impl_firstList__always__FindTwoEdgesc1 F p0_g_Size p0_g_Rows 4 p0_g_Size p0_g_Rows p0_g_Rowsv p0_g_Rowsv b3 hr _ (hM.get 1 rfl) (hM.get 1 rfl) (hM.get 0 rfl)) fun v w a hK hS => ?_)
 obtain ⟨v8, rfl, hN⟩ := hK
 have hM := hM.add hN rfl
 refine st_val hS rfl rfl (by decide) (rv_extract (hS.ev rfl) rfl) fun a hS => ?_
 refine st_val hS rfl rfl (by decide) (rv_extract (hS.ev rfl) rfl) fun a hS => ?_
 refine st_val hS rfl rfl (by decide) (rv_assign (hS.ev rfl)) fun a hS => ?_
 refine st_val hS rfl rfl (by decide) (rv_assign (hS.ev rfl)) fun a hS => ?_
 refine wpList_nil ?_
 refine hK4 _ _ ?_
 refine wp_ret ?_
 cases hF
 exact hQr _ _ (r_2 hS rfl rfl rfl ⟨v8, rfl, hM.pick [0] (by decide) rfl⟩)


theorem c_spec_IsInducedPath (F : Nat) (p0_g_Size : Int) (p0_g_Rows : List Int) (p1_l : List Int) (p0_g_Rowsv : Value) (p1_lv : Value) {r : Bool} (hF : S_spec_IsInducedPath F p0_g_Size p0_g_Rows p1_l = some r) (w0 : World) (h0 : RdRow w0 p0_g_Rowsv (List.map (int i64) p0_g_Rows)) (h1 : RdRow w0 p1_lv (List.map (int i64) p1_l)) :
    Calls Try.prog 41 [(Value.agg #[(int i64 p0_g_Size), p0_g_Rowsv]), p1_lv].toArray w0 (retPost fun v w' => v = (Value.bool r) ∧ Mem Nob w0 w' []) := by
 have hM : Mem Nob w0 w0 [(false, rd p0_g_Rowsv (List.map (int i64) p0_g_Rows)), (false, rd p1_lv (List.map (int i64) p1_l))] := (Mem.rcons (Mem.rcons (Mem.nil w0) h1 (by simp)) h0 (by simp))
 refine enter2 Try.func41 rfl rfl rfl fun Q a hQr hQn hQp hS => ?_
 have hS : Sl 42 [(0, (Value.agg #[(int i64 p0_g_Size), p0_g_Rowsv])), (1, p1_lv)] a := hS
 unfold S_spec_IsInducedPath at hF
 refine wp_seq_k fun K1 hK1 => ?_
 refine wp_region_lit ?_
 obtain ⟨b3, w, hr, hM⟩ := hM.boxE (ρ := a.eval) (dst := some 2) (ty := _) (pos := _) (af := _) (gd := _) (x := .tmp 0) (T := 28) [(int i64 p0_g_Size), p0_g_Rowsv] (hS.ev rfl) rfl
 refine st_val hS rfl rfl (by decide) hr fun a hS => ?_
 refine st_val hS rfl rfl (by decide) (rv_assign (hS.ev rfl)) fun a hS => ?_
 refine wpList_nil ?_
 refine hK1 _ _ ?_
 refine wp_seq_k fun K4 hK4 => ?_
 refine wp_seq_k fun K10 hK10 => ?_
 have hJ1 : ∀ (p12 : Bool) (a : Act) (w : World), Sl 42 [(1, p1_lv), (2, (fdp b3 0)), (15, (Value.bool p12))] a → Mem Nob w0 w [(false, rd p1_lv (List.map (int i64) p1_l)), (true, bx b3 28 [(int i64 p0_g_Size), p0_g_Rowsv]), (false, rd p0_g_Rowsv (List.map (int i64) p0_g_Rows))] → S_spec_IsInducedPath_j1 F p0_g_Size p0_g_Rows p1_l p12 = some r → K10 a w := by
  intro p12 a w hS hM hF
  unfold S_spec_IsInducedPath_j1 at hF
  refine hK10 _ _ ?_
  rcases ite_some hF with ⟨hc, hF⟩ | ⟨hc, hF⟩
  ·refine cond_t hS rfl hc ?_
   refine wp_seq_k fun K13 hK13 => ?_
   refine wp_region_lit ?_
   refine st_val hS rfl rfl (by decide) (rv_assign (hS.ev rfl)) fun a hS => ?_
   refine wpList_nil ?_
   refine hK13 _ _ ?_
   have hS : Sl 42 [(4, (Value.bool false))] a := hS.sub (sub_cons rfl sub_nil)
   have hM := hM.pick [] (by decide) rfl
   refine wp_ret ?_
   cases hF
   exact hQr _ _ (r_1 hS rfl rfl ⟨rfl, hM.pick [] (by decide) rfl⟩)
  ·refine cond_f hS rfl hc ?_
   refine wp_skip ?_
   refine hK4 _ _ ?_
   refine wp_seq_k fun K14 hK14 => ?_
   have hJ2 : ∀ (a : Act) (w : World), Sl 42 [] a → Mem Nob w0 w [] → S_spec_IsInducedPath_j2 F = some r → K14 a w := by
    intro a w hS hM hF
    unfold S_spec_IsInducedPath_j2 at hF
    refine hK14 _ _ ?_
    refine wp_seq_k fun K193 hK193 => ?_
    refine wp_region_lit ?_
    refine st_val hS rfl rfl (by decide) (rv_assign (hS.ev rfl)) fun a hS => ?_
    refine wpList_nil ?_
    refine hK193 _ _ ?_
    refine wp_ret ?_
    cases hF
    exact hQr _ _ (r_1 hS rfl rfl ⟨rfl, hM.pick [] (by decide) rfl⟩)
   refine wp_seq_k fun K194 hK194 => ?_
   refine wp_region_lit ?_
   refine st_val hS rfl rfl (by decide) (rv_assign (hS.ev rfl)) fun a hS => ?_
   refine wpList_nil ?_
   refine hK194 _ _ ?_
   refine wp_block ?_
   obtain ⟨lb3, hl3, hF3⟩ := bind_some hF
   refine wp_loop_sh (fun s => S_spec_IsInducedPath_l3 F p0_g_Size p0_g_Rows p1_l s) (fun s a w => Sl 42 [(1, p1_lv), (2, (fdp b3 0)), (5, (int i64 s))] a ∧ Mem Nob w0 w [(false, rd p1_lv (List.map (int i64) p1_l)), (true, bx b3 28 [(int i64 p0_g_Size), p0_g_Rowsv]), (false, rd p0_g_Rowsv (List.map (int i64) p0_g_Rows))]) hl3 ⟨(hS.sub (sub_cons rfl (sub_cons rfl (sub_cons rfl sub_nil)))), (hM.pick [0, 1, 2] (by decide) rfl)⟩ ?_
   rintro K3 x195 a w res3 ⟨hS, hM⟩ hF hN3 hX3
   have hF : S_spec_IsInducedPath_l3 F p0_g_Size p0_g_Rows p1_l x195 = some res3 := hF
   have hS : Sl 42 [(1, p1_lv), (2, (fdp b3 0)), (5, (int i64 x195))] a := hS
   have hM : Mem Nob w0 w [(false, rd p1_lv (List.map (int i64) p1_l)), (true, bx b3 28 [(int i64 p0_g_Size), p0_g_Rowsv]), (false, rd p0_g_Rowsv (List.map (int i64) p0_g_Rows))] := hM
   unfold S_spec_IsInducedPath_l3 at hF
   refine wp_seq_k fun K284 hK284 => ?_
   refine wp_seq_k fun K286 hK286 => ?_
   refine wp_region_lit ?_
   refine st_val hS rfl rfl (by decide) (rv_move (hS.ev rfl)) fun a hS => ?_
   refine st_val hS rfl rfl (by decide) (rv_move (hS.ev rfl)) fun a hS => ?_
   refine st_val hS rfl rfl (by decide) (rv_len_rowM Try.underlying22 (hS.ev rfl) (hM.get 0 rfl)) fun a hS => ?_
   refine st_val hS rfl rfl (by decide) (rv_lss (hS.ev rfl) (hS.ev rfl)) fun a hS => ?_
   refine wpList_nil ?_
   refine hK286 _ _ ?_
   rcases ite_some hF with ⟨hc, hF⟩ | ⟨hc, hF⟩
   ·refine cond_t hS rfl hc ?_
    refine wp_skip ?_
    refine hK284 _ _ ?_
    refine wp_seq_k fun K287 hK287 => ?_
    have hJ4 : ∀ (a : Act) (w : World), Sl 42 [(1, p1_lv), (2, (fdp b3 0)), (5, (int i64 x195))] a → Mem Nob w0 w [(false, rd p1_lv (List.map (int i64) p1_l)), (true, bx b3 28 [(int i64 p0_g_Size), p0_g_Rowsv]), (false, rd p0_g_Rowsv (List.map (int i64) p0_g_Rows))] → S_spec_IsInducedPath_j4 F x195 = some res3 → K287 a w := by
     intro a w hS hM hF
     unfold S_spec_IsInducedPath_j4 at hF
     refine hK287 _ _ ?_
     refine wp_region_lit ?_
     refine st_val hS rfl rfl (by decide) (rv_move (hS.ev rfl)) fun a hS => ?_
     refine st_val hS rfl rfl (by decide) (rv_add (hS.ev rfl) (hS.ev rfl)) fun a hS => ?_
     refine st_val hS rfl rfl (by decide) (rv_assign (hS.ev rfl)) fun a hS => ?_
     refine wpList_nil ?_
     cases hF
     exact hN3 _ _ _ rfl ⟨(hS.sub (sub_cons rfl (sub_cons rfl (sub_cons rfl sub_nil)))), (hM.pick [0, 1, 2] (by decide) rfl)⟩
    refine wp_block ?_
    refine wp_seq_k fun K330 hK330 => ?_
    refine wp_region_lit ?_
    refine st_val hS rfl rfl (by decide) (rv_assign (hS.ev rfl)) fun a hS => ?_
    refine wpList_nil ?_
    refine hK330 _ _ ?_
    refine wp_block ?_
    obtain ⟨lb5, hl5, hF5⟩ := bind_some hF
    refine wp_loop_sh (fun s => S_spec_IsInducedPath_l5 F p0_g_Size p0_g_Rows p1_l x195 s) (fun s a w => Sl 42 [(1, p1_lv), (2, (fdp b3 0)), (5, (int i64 x195)), (6, (int i64 s))] a ∧ Mem Nob w0 w [(false, rd p1_lv (List.map (int i64) p1_l)), (true, bx b3 28 [(int i64 p0_g_Size), p0_g_Rowsv]), (false, rd p0_g_Rowsv (List.map (int i64) p0_g_Rows))]) hl5 ⟨(hS.sub (sub_cons rfl (sub_cons rfl (sub_cons rfl (sub_cons rfl sub_nil))))), (hM.pick [0, 1, 2] (by decide) rfl)⟩ ?_
    rintro K5 x331 a w res5 ⟨hS, hM⟩ hF hN5 hX5
    have hF : S_spec_IsInducedPath_l5 F p0_g_Size p0_g_Rows p1_l x195 x331 = some res5 := hF
    have hS : Sl 42 [(1, p1_lv), (2, (fdp b3 0)), (5, (int i64 x195)), (6, (int i64 x331))] a := hS
    have hM : Mem Nob w0 w [(false, rd p1_lv (List.map (int i64) p1_l)), (true, bx b3 28 [(int i64 p0_g_Size), p0_g_Rowsv]), (false, rd p0_g_Rowsv (List.map (int i64) p0_g_Rows))] := hM
    unfold S_spec_IsInducedPath_l5 at hF
    refine wp_seq_k fun K352 hK352 => ?_
    refine wp_seq_k fun K354 hK354 => ?_
    refine wp_region_lit ?_
    refine st_val hS rfl rfl (by decide) (rv_move (hS.ev rfl)) fun a hS => ?_
    refine st_val hS rfl rfl (by decide) (rv_move (hS.ev rfl)) fun a hS => ?_
    refine st_val hS rfl rfl (by decide) (rv_lss (hS.ev rfl) (hS.ev rfl)) fun a hS => ?_
    refine wpList_nil ?_
    refine hK354 _ _ ?_
    rcases ite_some hF with ⟨hc, hF⟩ | ⟨hc, hF⟩
    ·refine cond_t hS rfl hc ?_
     refine wp_skip ?_
     refine hK352 _ _ ?_
     refine wp_seq_k fun K355 hK355 => ?_
     refine wp_block ?_
     refine wp_seq_k fun K364 hK364 => ?_
     refine an_startB 15 Nob ty_mixed (by kernel_rfl) fun w hf => ?_
     have hM := hM.fra hf
     have hB := hM
     have hM := hB.reg0
     refine tkB hS 0 1 (by kernel_rfl) rfl rfl rfl hQp rfl (fun w' hC' => (rv_load_agg (hS.ev rfl) ty_ag_28 ((hB.fra hC').get 1 rfl) ty_sz_28)) hM.fr fun a hS => ?_
     refine tkB hS 1 3 (by kernel_rfl) rfl rfl rfl hQp rfl (fun w' hC' => (rv_move (hS.ev rfl))) hM.fr fun a hS => ?_
     refine tkB hS 2 7 (by kernel_rfl) rfl rfl rfl hQp rfl (fun w' hC' => (rv_move (hS.ev rfl))) hM.fr fun a hS => ?_
     obtain ⟨x368, hx, hF⟩ := bind_some hF
     obtain ⟨hi0, hi1, hex368⟩ := idxL_some hx
     refine tkB hS 3 15 (by kernel_rfl) rfl rfl rfl hQp rfl (fun w' hC' => (rv_indexAddr Try.underlying22 ty_el_3 (hS.ev rfl) (hS.ev rfl) (hM.get 0 rfl) hi0 (map_len hi1))) hM.fr fun a hS => ?_
     refine tkB hS 4 31 (by kernel_rfl) rfl rfl rfl hQp rfl (fun w' hC' => (rv_load_el (hS.ev rfl) ty_ag_3 ((hB.fra hC').get 0 rfl) (mget hex368))) hM.fr fun a hS => ?_
     refine tkB hS 5 63 (by kernel_rfl) rfl rfl rfl hQp rfl (fun w' hC' => (rv_move (hS.ev rfl))) hM.fr fun a hS => ?_
     refine tkB hS 6 127 (by kernel_rfl) rfl rfl rfl hQp rfl (fun w' hC' => (rv_move (hS.ev rfl))) hM.fr fun a hS => ?_
     obtain ⟨x369, hx, hF⟩ := bind_some hF
     obtain ⟨hi0, hi1, hex369⟩ := idxL_some hx
     refine tkB hS 7 255 (by kernel_rfl) rfl rfl rfl hQp rfl (fun w' hC' => (rv_indexAddr Try.underlying22 ty_el_3 (hS.ev rfl) (hS.ev rfl) (hM.get 0 rfl) hi0 (map_len hi1))) hM.fr fun a hS => ?_
     refine tkB hS 8 511 (by kernel_rfl) rfl rfl rfl hQp rfl (fun w' hC' => (rv_load_el (hS.ev rfl) ty_ag_3 ((hB.fra hC').get 0 rfl) (mget hex369))) hM.fr fun a hS => ?_
     refine tkB hS 10 1535 (by kernel_rfl) rfl rfl rfl hQp rfl (fun w' hC' => (rv_move (hS.ev rfl))) hM.fr fun a hS => ?_
     refine tkB hS 11 3583 (by kernel_rfl) rfl rfl rfl hQp rfl (fun w' hC' => (rv_move (hS.ev rfl))) hM.fr fun a hS => ?_
     refine tkB hS 12 7679 (by kernel_rfl) rfl rfl rfl hQp rfl (fun w' hC' => (rv_sub (hS.ev rfl) (hS.ev rfl))) hM.fr fun a hS => ?_
     refine tkB hS 13 15871 (by kernel_rfl) rfl rfl rfl hQp rfl (fun w' hC' => (rv_eql (hS.ev rfl) (hS.ev rfl))) hM.fr fun a hS => ?_
     obtain ⟨r370, hr, hF⟩ := bind_some hF
     refine an_oneB hS (i := 9) 16383 (by kernel_rfl) rfl (by kernel_rfl) rfl ?_
     refine wp_call hS rfl rfl (by decide) fn_ok_94 rfl (c_spec_l2Edge F p0_g_Size p0_g_Rows x368 x369 p0_g_Rowsv hr _ (hM.get 2 rfl)) fun v w a hK hS => ?_
     obtain ⟨rfl, hN⟩ := hK
     have hM := hM.fra hN.fr
     refine ⟨hM.fr, ?_⟩
     refine tkB hS 14 32767 (by kernel_rfl) rfl rfl rfl hQp rfl (fun w' hC' => (rv_bneq Try.underlying4 (hS.ev rfl) (hS.ev rfl))) hM.fr fun a hS => ?_
     refine an_done (by kernel_rfl) ?_
     have hN := hM.pick [] (by decide) rfl
     have hM := Mem.callo0 hB hN rfl
     refine hK364 _ _ ?_
     have hS : Sl 42 [(1, p1_lv), (2, (fdp b3 0)), (5, (int i64 x195)), (6, (int i64 x331)), (41, (Value.bool (r370 != (x331 == (i64.wrap (x195 - 1))))))] a := hS.sub (sub_cons rfl (sub_cons rfl (sub_cons rfl (sub_cons rfl (sub_cons rfl sub_nil)))))
     rcases ite_some hF with ⟨hc, hF⟩ | ⟨hc, hF⟩
     ·refine cond_t hS rfl hc ?_
      refine wp_seq_k fun K371 hK371 => ?_
      refine wp_region_lit ?_
      refine st_val hS rfl rfl (by decide) (rv_assign (hS.ev rfl)) fun a hS => ?_
      refine wpList_nil ?_
      refine hK371 _ _ ?_
      have hS : Sl 42 [(4, (Value.bool false))] a := hS.sub (sub_cons rfl sub_nil)
      have hM := hM.pick [] (by decide) rfl
      refine wp_ret ?_
      cases hF
      have e := hX5 _ rfl
      subst e
      have hF := hF5
      cases hF
      have e := hX3 _ rfl
      subst e
      have hF := hF3
      cases hF
      exact hQr _ _ (r_1 hS rfl rfl ⟨rfl, hM.pick [] (by decide) rfl⟩)
     ·refine cond_f hS rfl hc ?_
      refine wp_skip ?_
      refine hK355 _ _ ?_
      refine wp_region_lit ?_
      refine st_val hS rfl rfl (by decide) (rv_move (hS.ev rfl)) fun a hS => ?_
      refine st_val hS rfl rfl (by decide) (rv_add (hS.ev rfl) (hS.ev rfl)) fun a hS => ?_
      refine st_val hS rfl rfl (by decide) (rv_assign (hS.ev rfl)) fun a hS => ?_
      refine wpList_nil ?_
      cases hF
      exact hN5 _ _ _ rfl ⟨(hS.sub (sub_cons rfl (sub_cons rfl (sub_cons rfl (sub_cons rfl sub_nil))))), (hM.pick [0, 1, 2] (by decide) rfl)⟩
    ·refine cond_f hS rfl hc ?_
     refine wp_exit ?_
     cases hF
     exact hJ4 _ _ (hS.sub (sub_cons rfl (sub_cons rfl (sub_cons rfl sub_nil)))) (hM.pick [0, 1, 2] (by decide) rfl) (by have e := hX5 _ rfl; subst e; exact hF5)
   ·refine cond_f hS rfl hc ?_
    refine wp_exit ?_
    cases hF
    exact hJ2 _ _ (hS.sub sub_nil) (hM.pick [] (by decide) rfl) (by have e := hX3 _ rfl; subst e; exact hF3)
 refine wp_region_lit ?_
 refine st_val hS rfl rfl (by decide) (rv_load_agg (hS.ev rfl) ty_ag_28 (hM.get 0 rfl) ty_sz_28) fun a hS => ?_
 refine st_val hS rfl rfl (by decide) (rv_move (hS.ev rfl)) fun a hS => ?_
 obtain ⟨r372, hr, hF⟩ := bind_some hF
 refine st_wp hS rfl (wp_call hS rfl rfl (by decide) fn_ok_93 rfl (c_spec_l4Distinct F p0_g_Size p0_g_Rows p1_l p0_g_Rowsv p1_lv hr _ (hM.get 1 rfl) (hM.get 2 rfl)) fun v w a hK hS => ?_)
 obtain ⟨rfl, hN⟩ := hK
 have hM := hM.fra hN.fr
 refine st_val hS rfl rfl (by decide) (rv_not (hS.ev rfl)) fun a hS => ?_
 refine st_val hS rfl rfl (by decide) (rv_move (hS.ev rfl)) fun a hS => ?_
 rcases ite_some hF with ⟨hc, hF⟩ | ⟨hc, hF⟩
 ·have hS := hS.setb (t := 11) rfl hc
  refine st_skip hS rfl rfl (by decide) fun a hS => ?_
  refine st_skip hS rfl rfl (by decide) fun a hS => ?_
  refine st_skip hS rfl rfl (by decide) fun a hS => ?_
  refine st_val hS rfl rfl (by decide) (rv_pick_t (hS.ev rfl) (hS.ev rfl)) fun a hS => ?_
  refine wpList_nil ?_
  exact hJ1 true _ _ (hS.sub (sub_cons rfl (sub_cons rfl (sub_cons rfl sub_nil)))) (hM.pick [2, 0, 1] (by decide) rfl) hF
 ·have hS := hS.setb (t := 11) rfl hc
  refine st_val hS rfl rfl (by decide) (rv_move (hS.ev rfl)) fun a hS => ?_
  refine st_val hS rfl rfl (by decide) (rv_len_rowM Try.underlying22 (hS.ev rfl) (hM.get 2 rfl)) fun a hS => ?_
  refine st_val hS rfl rfl (by decide) (rv_eql (hS.ev rfl) (hS.ev rfl)) fun a hS => ?_
  refine st_val hS rfl rfl (by decide) (rv_pick_f (hS.ev rfl) (hS.ev rfl)) fun a hS => ?_
  refine wpList_nil ?_
  exact hJ1 ((p1_l.length : Int) == 0) _ _ (hS.sub (sub_cons rfl (sub_cons rfl (sub_cons rfl sub_nil)))) (hM.pick [2, 0, 1] (by decide) rfl) hF


theorem c_spec_IsHole (F : Nat) (p0_g_Size : Int) (p0_g_Rows : List Int) (p1_l : List Int) (p0_g_Rowsv : Value) (p1_lv : Value) {r : Bool} (hF : S_spec_IsHole F p0_g_Size p0_g_Rows p1_l = some r) (w0 : World) (h0 : RdRow w0 p0_g_Rowsv (List.map (int i64) p0_g_Rows)) (h1 : RdRow w0 p1_lv (List.map (int i64) p1_l)) :
    Calls Try.prog 42 [(Value.agg #[(int i64 p0_g_Size), p0_g_Rowsv]), p1_lv].toArray w0 (retPost fun v w' => v = (Value.bool r) ∧ Mem Nob w0 w' []) := by
 have hM : Mem Nob w0 w0 [(false, rd p0_g_Rowsv (List.map (int i64) p0_g_Rows)), (false, rd p1_lv (List.map (int i64) p1_l))] := (Mem.rcons (Mem.rcons (Mem.nil w0) h1 (by simp)) h0 (by simp))
 refine enter2 Try.func42 rfl rfl rfl fun Q a hQr hQn hQp hS => ?_
 have hS : Sl 53 [(0, (Value.agg #[(int i64 p0_g_Size), p0_g_Rowsv])), (1, p1_lv)] a := hS
 unfold S_spec_IsHole at hF
 refine wp_seq_k fun K1 hK1 => ?_
 refine wp_region_lit ?_
 obtain ⟨b3, w, hr, hM⟩ := hM.boxE (ρ := a.eval) (dst := some 2) (ty := _) (pos := _) (af := _) (gd := _) (x := .tmp 0) (T := 28) [(int i64 p0_g_Size), p0_g_Rowsv] (hS.ev rfl) rfl
 refine st_val hS rfl rfl (by decide) hr fun a hS => ?_
 refine st_val hS rfl rfl (by decide) (rv_assign (hS.ev rfl)) fun a hS => ?_
 refine wpList_nil ?_
 refine hK1 _ _ ?_
 refine wp_seq_k fun K4 hK4 => ?_
 refine wp_seq_k fun K10 hK10 => ?_
 have hJ1 : ∀ (p12 : Bool) (a : Act) (w : World), Sl 53 [(1, p1_lv), (2, (fdp b3 0)), (15, (Value.bool p12))] a → Mem Nob w0 w [(false, rd p1_lv (List.map (int i64) p1_l)), (true, bx b3 28 [(int i64 p0_g_Size), p0_g_Rowsv]), (false, rd p0_g_Rowsv (List.map (int i64) p0_g_Rows))] → S_spec_IsHole_j1 F p0_g_Size p0_g_Rows p1_l p12 = some r → K10 a w := by
  intro p12 a w hS hM hF
  unfold S_spec_IsHole_j1 at hF
  refine hK10 _ _ ?_
  rcases ite_some hF with ⟨hc, hF⟩ | ⟨hc, hF⟩
  ·refine cond_t hS rfl hc ?_
   refine wp_seq_k fun K13 hK13 => ?_
   refine wp_region_lit ?_
   refine st_val hS rfl rfl (by decide) (rv_assign (hS.ev rfl)) fun a hS => ?_
   refine wpList_nil ?_
   refine hK13 _ _ ?_
   have hS : Sl 53 [(4, (Value.bool false))] a := hS.sub (sub_cons rfl sub_nil)
   have hM := hM.pick [] (by decide) rfl
   refine wp_ret ?_
   cases hF
   exact hQr _ _ (r_1 hS rfl rfl ⟨rfl, hM.pick [] (by decide) rfl⟩)
  ·refine cond_f hS rfl hc ?_
   refine wp_skip ?_
   refine hK4 _ _ ?_
   refine wp_seq_k fun K14 hK14 => ?_
   have hJ2 : ∀ (a : Act) (w : World), Sl 53 [] a → Mem Nob w0 w [] → S_spec_IsHole_j2 F = some r → K14 a w := by
    intro a w hS hM hF
    unfold S_spec_IsHole_j2 at hF
    refine hK14 _ _ ?_
    refine wp_seq_k fun K209 hK209 => ?_
    refine wp_region_lit ?_
    refine st_val hS rfl rfl (by decide) (rv_assign (hS.ev rfl)) fun a hS => ?_
    refine wpList_nil ?_
    refine hK209 _ _ ?_
    refine wp_ret ?_
    cases hF
    exact hQr _ _ (r_1 hS rfl rfl ⟨rfl, hM.pick [] (by decide) rfl⟩)
   refine wp_seq_k fun K210 hK210 => ?_
   refine wp_region_lit ?_
   refine st_val hS rfl rfl (by decide) (rv_assign (hS.ev rfl)) fun a hS => ?_
   refine wpList_nil ?_
   refine hK210 _ _ ?_
   refine wp_block ?_
   obtain ⟨lb3, hl3, hF3⟩ := bind_some hF
   refine wp_loop_sh (fun s => S_spec_IsHole_l3 F p0_g_Size p0_g_Rows p1_l s) (fun s a w => Sl 53 [(1, p1_lv), (2, (fdp b3 0)), (5, (int i64 s))] a ∧ Mem Nob w0 w [(false, rd p1_lv (List.map (int i64) p1_l)), (true, bx b3 28 [(int i64 p0_g_Size), p0_g_Rowsv]), (false, rd p0_g_Rowsv (List.map (int i64) p0_g_Rows))]) hl3 ⟨(hS.sub (sub_cons rfl (sub_cons rfl (sub_cons rfl sub_nil)))), (hM.pick [0, 1, 2] (by decide) rfl)⟩ ?_
   rintro K3 x211 a w res3 ⟨hS, hM⟩ hF hN3 hX3
   have hF : S_spec_IsHole_l3 F p0_g_Size p0_g_Rows p1_l x211 = some res3 := hF
   have hS : Sl 53 [(1, p1_lv), (2, (fdp b3 0)), (5, (int i64 x211))] a := hS
   have hM : Mem Nob w0 w [(false, rd p1_lv (List.map (int i64) p1_l)), (true, bx b3 28 [(int i64 p0_g_Size), p0_g_Rowsv]), (false, rd p0_g_Rowsv (List.map (int i64) p0_g_Rows))] := hM
   unfold S_spec_IsHole_l3 at hF
   refine wp_seq_k fun K308 hK308 => ?_
   refine wp_seq_k fun K310 hK310 => ?_
   refine wp_region_lit ?_
   refine st_val hS rfl rfl (by decide) (rv_move (hS.ev rfl)) fun a hS => ?_
   refine st_val hS rfl rfl (by decide) (rv_move (hS.ev rfl)) fun a hS => ?_
   refine st_val hS rfl rfl (by decide) (rv_len_rowM Try.underlying22 (hS.ev rfl) (hM.get 0 rfl)) fun a hS => ?_
   refine st_val hS rfl rfl (by decide) (rv_lss (hS.ev rfl) (hS.ev rfl)) fun a hS => ?_
   refine wpList_nil ?_
   refine hK310 _ _ ?_
   rcases ite_some hF with ⟨hc, hF⟩ | ⟨hc, hF⟩
   ·refine cond_t hS rfl hc ?_
    refine wp_skip ?_
    refine hK308 _ _ ?_
    refine wp_seq_k fun K311 hK311 => ?_
    have hJ4 : ∀ (a : Act) (w : World), Sl 53 [(1, p1_lv), (2, (fdp b3 0)), (5, (int i64 x211))] a → Mem Nob w0 w [(false, rd p1_lv (List.map (int i64) p1_l)), (true, bx b3 28 [(int i64 p0_g_Size), p0_g_Rowsv]), (false, rd p0_g_Rowsv (List.map (int i64) p0_g_Rows))] → S_spec_IsHole_j4 F x211 = some res3 → K311 a w := by
     intro a w hS hM hF
     unfold S_spec_IsHole_j4 at hF
     refine hK311 _ _ ?_
     refine wp_region_lit ?_
     refine st_val hS rfl rfl (by decide) (rv_move (hS.ev rfl)) fun a hS => ?_
     refine st_val hS rfl rfl (by decide) (rv_add (hS.ev rfl) (hS.ev rfl)) fun a hS => ?_
     refine st_val hS rfl rfl (by decide) (rv_assign (hS.ev rfl)) fun a hS => ?_
     refine wpList_nil ?_
     cases hF
     exact hN3 _ _ _ rfl ⟨(hS.sub (sub_cons rfl (sub_cons rfl (sub_cons rfl sub_nil)))), (hM.pick [0, 1, 2] (by decide) rfl)⟩
    refine wp_block ?_
    refine wp_seq_k fun K358 hK358 => ?_
    refine wp_region_lit ?_
    refine st_val hS rfl rfl (by decide) (rv_assign (hS.ev rfl)) fun a hS => ?_
    refine wpList_nil ?_
    refine hK358 _ _ ?_
    refine wp_block ?_
    obtain ⟨lb5, hl5, hF5⟩ := bind_some hF
    refine wp_loop_sh (fun s => S_spec_IsHole_l5 F p0_g_Size p0_g_Rows p1_l x211 s) (fun s a w => Sl 53 [(1, p1_lv), (2, (fdp b3 0)), (5, (int i64 x211)), (6, (int i64 s))] a ∧ Mem Nob w0 w [(false, rd p1_lv (List.map (int i64) p1_l)), (true, bx b3 28 [(int i64 p0_g_Size), p0_g_Rowsv]), (false, rd p0_g_Rowsv (List.map (int i64) p0_g_Rows))]) hl5 ⟨(hS.sub (sub_cons rfl (sub_cons rfl (sub_cons rfl (sub_cons rfl sub_nil))))), (hM.pick [0, 1, 2] (by decide) rfl)⟩ ?_
    rintro K5 x359 a w res5 ⟨hS, hM⟩ hF hN5 hX5
    have hF : S_spec_IsHole_l5 F p0_g_Size p0_g_Rows p1_l x211 x359 = some res5 := hF
    have hS : Sl 53 [(1, p1_lv), (2, (fdp b3 0)), (5, (int i64 x211)), (6, (int i64 x359))] a := hS
    have hM : Mem Nob w0 w [(false, rd p1_lv (List.map (int i64) p1_l)), (true, bx b3 28 [(int i64 p0_g_Size), p0_g_Rowsv]), (false, rd p0_g_Rowsv (List.map (int i64) p0_g_Rows))] := hM
    unfold S_spec_IsHole_l5 at hF
    refine wp_seq_k fun K382 hK382 => ?_
    refine wp_seq_k fun K384 hK384 => ?_
    refine wp_region_lit ?_
    refine st_val hS rfl rfl (by decide) (rv_move (hS.ev rfl)) fun a hS => ?_
    refine st_val hS rfl rfl (by decide) (rv_move (hS.ev rfl)) fun a hS => ?_
    refine st_val hS rfl rfl (by decide) (rv_lss (hS.ev rfl) (hS.ev rfl)) fun a hS => ?_
    refine wpList_nil ?_
    refine hK384 _ _ ?_
    rcases ite_some hF with ⟨hc, hF⟩ | ⟨hc, hF⟩
    ·refine cond_t hS rfl hc ?_
     refine wp_skip ?_
     refine hK382 _ _ ?_
     refine wp_seq_k fun K385 hK385 => ?_
     refine wp_block ?_
     refine wp_seq_k fun K395 hK395 => ?_
     have hJ6 : ∀ (p399 : Bool) (a : Act) (w : World), Sl 53 [(1, p1_lv), (2, (fdp b3 0)), (5, (int i64 x211)), (6, (int i64 x359)), (52, (Value.bool p399))] a → Mem Nob w0 w [(false, rd p1_lv (List.map (int i64) p1_l)), (true, bx b3 28 [(int i64 p0_g_Size), p0_g_Rowsv]), (false, rd p0_g_Rowsv (List.map (int i64) p0_g_Rows))] → S_spec_IsHole_j6 F x359 p399 = some res5 → K395 a w := by
      intro p399 a w hS hM hF
      unfold S_spec_IsHole_j6 at hF
      refine hK395 _ _ ?_
      rcases ite_some hF with ⟨hc, hF⟩ | ⟨hc, hF⟩
      ·refine cond_t hS rfl hc ?_
       refine wp_seq_k fun K400 hK400 => ?_
       refine wp_region_lit ?_
       refine st_val hS rfl rfl (by decide) (rv_assign (hS.ev rfl)) fun a hS => ?_
       refine wpList_nil ?_
       refine hK400 _ _ ?_
       have hS : Sl 53 [(4, (Value.bool false))] a := hS.sub (sub_cons rfl sub_nil)
       have hM := hM.pick [] (by decide) rfl
       refine wp_ret ?_
       cases hF
       have e := hX5 _ rfl
       subst e
       have hF := hF5
       cases hF
       have e := hX3 _ rfl
       subst e
       have hF := hF3
       cases hF
       exact hQr _ _ (r_1 hS rfl rfl ⟨rfl, hM.pick [] (by decide) rfl⟩)
      ·refine cond_f hS rfl hc ?_
       refine wp_skip ?_
       refine hK385 _ _ ?_
       refine wp_region_lit ?_
       refine st_val hS rfl rfl (by decide) (rv_move (hS.ev rfl)) fun a hS => ?_
       refine st_val hS rfl rfl (by decide) (rv_add (hS.ev rfl) (hS.ev rfl)) fun a hS => ?_
       refine st_val hS rfl rfl (by decide) (rv_assign (hS.ev rfl)) fun a hS => ?_
       refine wpList_nil ?_
       cases hF
       exact hN5 _ _ _ rfl ⟨(hS.sub (sub_cons rfl (sub_cons rfl (sub_cons rfl (sub_cons rfl sub_nil))))), (hM.pick [0, 1, 2] (by decide) rfl)⟩
     refine an_startB 26 Nob ty_mixed (by kernel_rfl) fun w hf => ?_
     have hM := hM.fra hf
     have hB := hM
     have hM := hB.reg0
     refine tkB hS 0 1 (by as_aux_lemma => kernel_rfl) rfl rfl rfl hQp rfl (fun w' hC' => (rv_load_agg (hS.ev rfl) ty_ag_28 ((hB.fra hC').get 1 rfl) ty_sz_28)) hM.fr fun a hS => ?_
     refine tkB hS 1 3 (by as_aux_lemma => kernel_rfl) rfl rfl rfl hQp rfl (fun w' hC' => (rv_move (hS.ev rfl))) hM.fr fun a hS => ?_
     refine tkB hS 2 7 (by as_aux_lemma => kernel_rfl) rfl rfl rfl hQp rfl (fun w' hC' => (rv_move (hS.ev rfl))) hM.fr fun a hS => ?_
     obtain ⟨x401, hx, hF⟩ := bind_some hF
     obtain ⟨hi0, hi1, hex401⟩ := idxL_some hx
     refine tkB hS 3 15 (by as_aux_lemma => kernel_rfl) rfl rfl rfl hQp rfl (fun w' hC' => (rv_indexAddr Try.underlying22 ty_el_3 (hS.ev rfl) (hS.ev rfl) (hM.get 0 rfl) hi0 (map_len hi1))) hM.fr fun a hS => ?_
     refine tkB hS 4 31 (by as_aux_lemma => kernel_rfl) rfl rfl rfl hQp rfl (fun w' hC' => (rv_load_el (hS.ev rfl) ty_ag_3 ((hB.fra hC').get 0 rfl) (mget hex401))) hM.fr fun a hS => ?_
     refine tkB hS 5 63 (by as_aux_lemma => kernel_rfl) rfl rfl rfl hQp rfl (fun w' hC' => (rv_move (hS.ev rfl))) hM.fr fun a hS => ?_
     refine tkB hS 6 127 (by as_aux_lemma => kernel_rfl) rfl rfl rfl hQp rfl (fun w' hC' => (rv_move (hS.ev rfl))) hM.fr fun a hS => ?_
     obtain ⟨x402, hx, hF⟩ := bind_some hF
     obtain ⟨hi0, hi1, hex402⟩ := idxL_some hx
     refine tkB hS 7 255 (by as_aux_lemma => kernel_rfl) rfl rfl rfl hQp rfl (fun w' hC' => (rv_indexAddr Try.underlying22 ty_el_3 (hS.ev rfl) (hS.ev rfl) (hM.get 0 rfl) hi0 (map_len hi1))) hM.fr fun a hS => ?_
     refine tkB hS 8 511 (by as_aux_lemma => kernel_rfl) rfl rfl rfl hQp rfl (fun w' hC' => (rv_load_el (hS.ev rfl) ty_ag_3 ((hB.fra hC').get 0 rfl) (mget hex402))) hM.fr fun a hS => ?_
     refine tkB hS 10 1535 (by as_aux_lemma => kernel_rfl) rfl rfl rfl hQp rfl (fun w' hC' => (rv_move (hS.ev rfl))) hM.fr fun a hS => ?_
     refine tkB hS 11 3583 (by as_aux_lemma => kernel_rfl) rfl rfl rfl hQp rfl (fun w' hC' => (rv_move (hS.ev rfl))) hM.fr fun a hS => ?_
     refine tkB hS 12 7679 (by as_aux_lemma => kernel_rfl) rfl rfl rfl hQp rfl (fun w' hC' => (rv_sub (hS.ev rfl) (hS.ev rfl))) hM.fr fun a hS => ?_
     refine tkB hS 13 15871 (by as_aux_lemma => kernel_rfl) rfl rfl rfl hQp rfl (fun w' hC' => (rv_eql (hS.ev rfl) (hS.ev rfl))) hM.fr fun a hS => ?_
     obtain ⟨r403, hr, hF⟩ := bind_some hF
     refine an_oneB hS (i := 9) 16383 (by as_aux_lemma => kernel_rfl) rfl (by as_aux_lemma => kernel_rfl) rfl ?_
     refine wp_call hS rfl rfl (by decide) fn_ok_94 rfl (c_spec_l2Edge F p0_g_Size p0_g_Rows x401 x402 p0_g_Rowsv hr _ (hM.get 2 rfl)) fun v w a hK hS => ?_
     obtain ⟨rfl, hN⟩ := hK
     have hM := hM.fra hN.fr
     refine ⟨hM.fr, ?_⟩
     refine tkB hS 14 32767 (by as_aux_lemma => kernel_rfl) rfl rfl rfl hQp rfl (fun w' hC' => (rv_move (hS.ev rfl))) hM.fr fun a hS => ?_
     rcases ite_some hF with ⟨hc, hF⟩ | ⟨hc, hF⟩
     ·have hS := hS.setb (t := 41) rfl hc
      refine skB hS [15, 16, 17, 18, 19, 20, 21, 22, 23] [42, 43, 44, 45, 46, 47, 48, 49, 50] 16777215 2 rfl (by as_aux_lemma => kernel_rfl) hQp hM.fr fun a hS => ?_
      refine tkB hS 24 33554431 (by as_aux_lemma => kernel_rfl) rfl rfl rfl hQp rfl (fun w' hC' => (rv_pick_t (hS.ev rfl) (hS.ev rfl))) hM.fr fun a hS => ?_
      refine tkB hS 25 67108863 (by as_aux_lemma => kernel_rfl) rfl rfl rfl hQp rfl (fun w' hC' => (rv_bneq Try.underlying4 (hS.ev rfl) (hS.ev rfl))) hM.fr fun a hS => ?_
      refine an_done (by as_aux_lemma => kernel_rfl) ?_
      have hN := hM.pick [] (by decide) rfl
      have hM := Mem.callo0 hB hN rfl
      exact hJ6 (r403 != true) _ _ (hS.sub (sub_cons rfl (sub_cons rfl (sub_cons rfl (sub_cons rfl (sub_cons rfl sub_nil)))))) (hM.pick [0, 1, 2] (by decide) rfl) hF
     ·have hS := hS.setb (t := 41) rfl hc
      refine tkB hS 15 65535 (by as_aux_lemma => kernel_rfl) rfl rfl rfl hQp rfl (fun w' hC' => (rv_move (hS.ev rfl))) hM.fr fun a hS => ?_
      refine tkB hS 16 131071 (by as_aux_lemma => kernel_rfl) rfl rfl rfl hQp rfl (fun w' hC' => (rv_eql (hS.ev rfl) (hS.ev rfl))) hM.fr fun a hS => ?_
      refine tkB hS 17 262143 (by as_aux_lemma => kernel_rfl) rfl rfl rfl hQp rfl (fun w' hC' => (rv_move (hS.ev rfl))) hM.fr fun a hS => ?_
      rcases ite_some hF with ⟨hc, hF⟩ | ⟨hc, hF⟩
      ·have hS := hS.setb (t := 44) rfl hc
       refine tkB hS 18 524287 (by as_aux_lemma => kernel_rfl) rfl rfl rfl hQp rfl (fun w' hC' => (rv_move (hS.ev rfl))) hM.fr fun a hS => ?_
       refine tkB hS 19 1048575 (by as_aux_lemma => kernel_rfl) rfl rfl rfl hQp rfl (fun w' hC' => (rv_move (hS.ev rfl))) hM.fr fun a hS => ?_
       refine tkB hS 20 2097151 (by as_aux_lemma => kernel_rfl) rfl rfl rfl hQp rfl (fun w' hC' => (rv_len_rowM Try.underlying22 (hS.ev rfl) (hM.get 0 rfl))) hM.fr fun a hS => ?_
       refine tkB hS 21 4194303 (by as_aux_lemma => kernel_rfl) rfl rfl rfl hQp rfl (fun w' hC' => (rv_sub (hS.ev rfl) (hS.ev rfl))) hM.fr fun a hS => ?_
       refine tkB hS 22 8388607 (by as_aux_lemma => kernel_rfl) rfl rfl rfl hQp rfl (fun w' hC' => (rv_eql (hS.ev rfl) (hS.ev rfl))) hM.fr fun a hS => ?_
       refine tkB hS 23 16777215 (by as_aux_lemma => kernel_rfl) rfl rfl rfl hQp rfl (fun w' hC' => (rv_pick_t (hS.ev rfl) (hS.ev rfl))) hM.fr fun a hS => ?_
       refine tkB hS 24 33554431 (by as_aux_lemma => kernel_rfl) rfl rfl rfl hQp rfl (fun w' hC' => (rv_pick_f (hS.ev rfl) (hS.ev rfl))) hM.fr fun a hS => ?_
       refine tkB hS 25 67108863 (by as_aux_lemma => kernel_rfl) rfl rfl rfl hQp rfl (fun w' hC' => (rv_bneq Try.underlying4 (hS.ev rfl) (hS.ev rfl))) hM.fr fun a hS => ?_
       refine an_done (by as_aux_lemma => kernel_rfl) ?_
       have hN := hM.pick [] (by decide) rfl
       have hM := Mem.callo0 hB hN rfl
       exact hJ6 (r403 != (x211 == (i64.wrap ((p1_l.length : Int) - 1)))) _ _ (hS.sub (sub_cons rfl (sub_cons rfl (sub_cons rfl (sub_cons rfl (sub_cons rfl sub_nil)))))) (hM.pick [0, 1, 2] (by decide) rfl) hF
      ·have hS := hS.setb (t := 44) rfl hc
       refine skB hS [18, 19, 20, 21, 22] [45, 46, 47, 48, 49] 8388607 3 rfl (by as_aux_lemma => kernel_rfl) hQp hM.fr fun a hS => ?_
       refine tkB hS 23 16777215 (by as_aux_lemma => kernel_rfl) rfl rfl rfl hQp rfl (fun w' hC' => (rv_pick_f (hS.ev rfl) (hS.ev rfl))) hM.fr fun a hS => ?_
       refine tkB hS 24 33554431 (by as_aux_lemma => kernel_rfl) rfl rfl rfl hQp rfl (fun w' hC' => (rv_pick_f (hS.ev rfl) (hS.ev rfl))) hM.fr fun a hS => ?_
       refine tkB hS 25 67108863 (by as_aux_lemma => kernel_rfl) rfl rfl rfl hQp rfl (fun w' hC' => (rv_bneq Try.underlying4 (hS.ev rfl) (hS.ev rfl))) hM.fr fun a hS => ?_
       refine an_done (by as_aux_lemma => kernel_rfl) ?_
       have hN := hM.pick [] (by decide) rfl
       have hM := Mem.callo0 hB hN rfl
       exact hJ6 (r403 != false) _ _ (hS.sub (sub_cons rfl (sub_cons rfl (sub_cons rfl (sub_cons rfl (sub_cons rfl sub_nil)))))) (hM.pick [0, 1, 2] (by decide) rfl) hF
    ·refine cond_f hS rfl hc ?_
     refine wp_exit ?_
     cases hF
     exact hJ4 _ _ (hS.sub (sub_cons rfl (sub_cons rfl (sub_cons rfl sub_nil)))) (hM.pick [0, 1, 2] (by decide) rfl) (by have e := hX5 _ rfl; subst e; exact hF5)
   ·refine cond_f hS rfl hc ?_
    refine wp_exit ?_
    cases hF
    exact hJ2 _ _ (hS.sub sub_nil) (hM.pick [] (by decide) rfl) (by have e := hX3 _ rfl; subst e; exact hF3)
 refine wp_region_lit ?_
 refine st_val hS rfl rfl (by decide) (rv_load_agg (hS.ev rfl) ty_ag_28 (hM.get 0 rfl) ty_sz_28) fun a hS => ?_
 refine st_val hS rfl rfl (by decide) (rv_move (hS.ev rfl)) fun a hS => ?_
 obtain ⟨r404, hr, hF⟩ := bind_some hF
 refine st_wp hS rfl (wp_call hS rfl rfl (by decide) fn_ok_93 rfl (c_spec_l4Distinct F p0_g_Size p0_g_Rows p1_l p0_g_Rowsv p1_lv hr _ (hM.get 1 rfl) (hM.get 2 rfl)) fun v w a hK hS => ?_)
 obtain ⟨rfl, hN⟩ := hK
 have hM := hM.fra hN.fr
 refine st_val hS rfl rfl (by decide) (rv_not (hS.ev rfl)) fun a hS => ?_
 refine st_val hS rfl rfl (by decide) (rv_move (hS.ev rfl)) fun a hS => ?_
 rcases ite_some hF with ⟨hc, hF⟩ | ⟨hc, hF⟩
 ·have hS := hS.setb (t := 11) rfl hc
  refine st_skip hS rfl rfl (by decide) fun a hS => ?_
  refine st_skip hS rfl rfl (by decide) fun a hS => ?_
  refine st_skip hS rfl rfl (by decide) fun a hS => ?_
  refine st_val hS rfl rfl (by decide) (rv_pick_t (hS.ev rfl) (hS.ev rfl)) fun a hS => ?_
  refine wpList_nil ?_
  exact hJ1 true _ _ (hS.sub (sub_cons rfl (sub_cons rfl (sub_cons rfl sub_nil)))) (hM.pick [2, 0, 1] (by decide) rfl) hF
 ·have hS := hS.setb (t := 11) rfl hc
  refine st_val hS rfl rfl (by decide) (rv_move (hS.ev rfl)) fun a hS => ?_
  refine st_val hS rfl rfl (by decide) (rv_len_rowM Try.underlying22 (hS.ev rfl) (hM.get 2 rfl)) fun a hS => ?_
  refine st_val hS rfl rfl (by decide) (rv_lss (hS.ev rfl) (hS.ev rfl)) fun a hS => ?_
  refine st_val hS rfl rfl (by decide) (rv_pick_f (hS.ev rfl) (hS.ev rfl)) fun a hS => ?_
  refine wpList_nil ?_
  exact hJ1 (decide ((p1_l.length : Int) < 4)) _ _ (hS.sub (sub_cons rfl (sub_cons rfl (sub_cons rfl sub_nil)))) (hM.pick [2, 0, 1] (by decide) rfl) hF


theorem c_spec_l4Search_b (F : Nat) (slf : Int → (List Int) → (List Int) → Int → Bool → Option ((List (Int)) × Bool)) (ih : ∀ (p0_g_Size : Int) (p0_g_Rows : List Int) (p1_l : List Int) (p2_n : Int) (p3_closed : Bool) (p0_g_Rowsv : Value) (p1_lv : Value) {r : (List (Int)) × Bool} (hF : slf p0_g_Size p0_g_Rows p1_l p2_n p3_closed = some r) (w0 : World) (hM : Mem (feet [(true, ow 3 p1_lv (List.map (int i64) p1_l))]) w0 w0 [(true, ow 3 p1_lv (List.map (int i64) p1_l)), (false, rd p0_g_Rowsv (List.map (int i64) p0_g_Rows))]), Calls Try.prog 75 [(Value.agg #[(int i64 p0_g_Size), p0_g_Rowsv]), p1_lv, (int i64 p2_n), (Value.bool p3_closed)].toArray w0 (retPost fun v w' => ∃ v227, v = (Value.tuple #[v227, (Value.bool r.2)]) ∧ Mem (feet [(true, ow 3 p1_lv (List.map (int i64) p1_l))]) w0 w' [(true, ow 3 v227 (List.map (int i64) r.1))])) (p0_g_Size : Int) (p0_g_Rows : List Int) (p1_l : List Int) (p2_n : Int) (p3_closed : Bool) (p0_g_Rowsv : Value) (p1_lv : Value) {r : (List (Int)) × Bool} (hF : S_spec_l4Search_b F slf p0_g_Size p0_g_Rows p1_l p2_n p3_closed = some r) (w0 : World) (hM : Mem (feet [(true, ow 3 p1_lv (List.map (int i64) p1_l))]) w0 w0 [(true, ow 3 p1_lv (List.map (int i64) p1_l)), (false, rd p0_g_Rowsv (List.map (int i64) p0_g_Rows))]) :
    Calls Try.prog 75 [(Value.agg #[(int i64 p0_g_Size), p0_g_Rowsv]), p1_lv, (int i64 p2_n), (Value.bool p3_closed)].toArray w0 (retPost fun v w' => ∃ v227, v = (Value.tuple #[v227, (Value.bool r.2)]) ∧ Mem (feet [(true, ow 3 p1_lv (List.map (int i64) p1_l))]) w0 w' [(true, ow 3 v227 (List.map (int i64) r.1))]) := by
 have hM := hM.pick [1, 0] (by decide) rfl
 refine enter2 Try.func75 rfl rfl rfl fun Q a hQr hQn hQp hS => ?_
 have hS : Sl 64 [(0, (Value.agg #[(int i64 p0_g_Size), p0_g_Rowsv])), (1, p1_lv), (2, (int i64 p2_n)), (3, (Value.bool p3_closed))] a := hS
 unfold S_spec_l4Search_b at hF
 refine wp_seq_k fun K1 hK1 => ?_
 refine wp_region_lit ?_
 obtain ⟨b3, w, hr, hM⟩ := hM.boxE (ρ := a.eval) (dst := some 4) (ty := _) (pos := _) (af := _) (gd := _) (x := .tmp 0) (T := 28) [(int i64 p0_g_Size), p0_g_Rowsv] (hS.ev rfl) rfl
 refine st_val hS rfl rfl (by decide) hr fun a hS => ?_
 refine st_val hS rfl rfl (by decide) (rv_assign (hS.ev rfl)) fun a hS => ?_
 refine st_val hS rfl rfl (by decide) (rv_assign (hS.ev rfl)) fun a hS => ?_
 refine wpList_nil ?_
 refine hK1 _ _ ?_
 refine wp_seq_k fun K4 hK4 => ?_
 refine wp_seq_k fun K16 hK16 => ?_
 refine wp_region_lit ?_
 refine st_val hS rfl rfl (by decide) (rv_move (hS.ev rfl)) fun a hS => ?_
 refine st_val hS rfl rfl (by decide) (rv_len_rowM Try.underlying22 (hS.ev rfl) (rd_of_ow (hM.get 2 rfl))) fun a hS => ?_
 refine st_val hS rfl rfl (by decide) (rv_move (hS.ev rfl)) fun a hS => ?_
 refine st_val hS rfl rfl (by decide) (rv_eql (hS.ev rfl) (hS.ev rfl)) fun a hS => ?_
 refine wpList_nil ?_
 refine hK16 _ _ ?_
 rcases ite_some hF with ⟨hc, hF⟩ | ⟨hc, hF⟩
 ·refine cond_t hS rfl hc ?_
  refine wp_seq_k fun K17 hK17 => ?_
  refine wp_seq_k fun K22 hK22 => ?_
  refine wp_region_lit ?_
  refine st_val hS rfl rfl (by decide) (rv_move (hS.ev rfl)) fun a hS => ?_
  refine wpList_nil ?_
  refine hK22 _ _ ?_
  have hS : Sl 64 [(1, p1_lv), (4, (fdp b3 0)), (18, (Value.bool p3_closed))] a := hS.sub (sub_cons rfl (sub_cons rfl (sub_cons rfl sub_nil)))
  rcases ite_some hF with ⟨hc, hF⟩ | ⟨hc, hF⟩
  ·refine cond_t hS rfl hc ?_
   refine wp_seq_k fun K23 hK23 => ?_
   refine wp_region_lit ?_
   refine st_val hS rfl rfl (by decide) (rv_move (hS.ev rfl)) fun a hS => ?_
   refine st_val hS rfl rfl (by decide) (rv_load_agg (hS.ev rfl) ty_ag_28 (hM.get 0 rfl) ty_sz_28) fun a hS => ?_
   refine st_val hS rfl rfl (by decide) (rv_move (hS.ev rfl)) fun a hS => ?_
   obtain ⟨r25, hr, hF⟩ := bind_some hF
   refine st_wp hS rfl (wp_call hS rfl rfl (by decide) fn_ok_42 rfl (c_spec_IsHole F p0_g_Size p0_g_Rows p1_l p0_g_Rowsv p1_lv hr _ (hM.get 1 rfl) (rd_of_ow (hM.get 2 rfl))) fun v w a hK hS => ?_)
   obtain ⟨rfl, hN⟩ := hK
   have hM := hM.fra hN.fr
   refine st_val hS rfl rfl (by decide) (rv_assign (hS.ev rfl)) fun a hS => ?_
   refine st_val hS rfl rfl (by decide) (rv_assign (hS.ev rfl)) fun a hS => ?_
   refine wpList_nil ?_
   refine hK23 _ _ ?_
   refine wp_ret ?_
   cases hF
   exact hQr _ _ (r_2 hS rfl rfl rfl ⟨p1_lv, rfl, hM.pick [2] (by decide) rfl⟩)
  ·refine cond_f hS rfl hc ?_
   refine wp_skip ?_
   refine hK17 _ _ ?_
   refine wp_seq_k fun K26 hK26 => ?_
   refine wp_region_lit ?_
   refine st_val hS rfl rfl (by decide) (rv_move (hS.ev rfl)) fun a hS => ?_
   refine st_val hS rfl rfl (by decide) (rv_assign (hS.ev rfl)) fun a hS => ?_
   refine st_val hS rfl rfl (by decide) (rv_assign (hS.ev rfl)) fun a hS => ?_
   refine wpList_nil ?_
   refine hK26 _ _ ?_
   refine wp_ret ?_
   cases hF
   exact hQr _ _ (r_2 hS rfl rfl rfl ⟨p1_lv, rfl, hM.pick [2] (by decide) rfl⟩)
 ·refine cond_f hS rfl hc ?_
  refine wp_skip ?_
  refine hK4 _ _ ?_
  refine wp_seq_k fun K27 hK27 => ?_
  have hJ1 : ∀ (a : Act) (w : World), Sl 64 [] a → Mem (feet [(true, ow 3 p1_lv (List.map (int i64) p1_l))]) w0 w [] → S_spec_l4Search_j1 F = some r → K27 a w := by
   intro a w hS hM hF
   unfold S_spec_l4Search_j1 at hF
   refine hK27 _ _ ?_
   refine wp_seq_k fun K126 hK126 => ?_
   refine wp_region_lit ?_
   obtain ⟨v128, w, hr, hM⟩ := Mem.litE (f := (int i64)) (dst := some 63) (ty := _) (pos := _) (af := _) (gd := _) (ps := []) ([] : List (Int)) i64_one hM hS Try.underlying22 ty_el_3 rfl rfl rfl rfl
   refine st_val hS rfl rfl (by decide) hr fun a hS => ?_
   refine st_val hS rfl rfl (by decide) (rv_assign (hS.ev rfl)) fun a hS => ?_
   refine st_val hS rfl rfl (by decide) (rv_assign (hS.ev rfl)) fun a hS => ?_
   refine wpList_nil ?_
   refine hK126 _ _ ?_
   refine wp_ret ?_
   cases hF
   exact hQr _ _ (r_2 hS rfl rfl rfl ⟨v128, rfl, hM.pick [0] (by decide) rfl⟩)
  refine wp_seq_k fun K129 hK129 => ?_
  refine wp_region_lit ?_
  refine st_val hS rfl rfl (by decide) (rv_assign (hS.ev rfl)) fun a hS => ?_
  refine wpList_nil ?_
  refine hK129 _ _ ?_
  refine wp_block ?_
  obtain ⟨lb2, hl2, hF2⟩ := bind_some hF
  refine wp_loop_sh (fun s => S_spec_l4Search_l2 F p0_g_Size p0_g_Rows p1_l p2_n p3_closed slf s) (fun s a w => Sl 64 [(1, p1_lv), (2, (int i64 p2_n)), (3, (Value.bool p3_closed)), (4, (fdp b3 0)), (10, (int i64 s))] a ∧ Mem (feet [(true, ow 3 p1_lv (List.map (int i64) p1_l))]) w0 w [(true, ow 3 p1_lv (List.map (int i64) p1_l)), (true, bx b3 28 [(int i64 p0_g_Size), p0_g_Rowsv]), (false, rd p0_g_Rowsv (List.map (int i64) p0_g_Rows))]) hl2 ⟨(hS.sub (sub_cons rfl (sub_cons rfl (sub_cons rfl (sub_cons rfl (sub_cons rfl sub_nil)))))), (hM.pick [2, 0, 1] (by decide) rfl)⟩ ?_
  rintro K2 x130 a w res2 ⟨hS, hM⟩ hF hN2 hX2
  have hF : S_spec_l4Search_l2 F p0_g_Size p0_g_Rows p1_l p2_n p3_closed slf x130 = some res2 := hF
  have hS : Sl 64 [(1, p1_lv), (2, (int i64 p2_n)), (3, (Value.bool p3_closed)), (4, (fdp b3 0)), (10, (int i64 x130))] a := hS
  have hM : Mem (feet [(true, ow 3 p1_lv (List.map (int i64) p1_l))]) w0 w [(true, ow 3 p1_lv (List.map (int i64) p1_l)), (true, bx b3 28 [(int i64 p0_g_Size), p0_g_Rowsv]), (false, rd p0_g_Rowsv (List.map (int i64) p0_g_Rows))] := hM
  unfold S_spec_l4Search_l2 at hF
  refine wp_seq_k fun K179 hK179 => ?_
  refine wp_seq_k fun K181 hK181 => ?_
  refine wp_region_lit ?_
  refine st_val hS rfl rfl (by decide) (rv_move (hS.ev rfl)) fun a hS => ?_
  refine st_val hS rfl rfl (by decide) (rv_fieldAddr ty_fd_28_0 (hS.ev rfl)) fun a hS => ?_
  refine st_val hS rfl rfl (by decide) (rv_load_bx (hS.ev rfl) ty_ag_3 (hM.get 1 rfl) rfl) fun a hS => ?_
  refine st_val hS rfl rfl (by decide) (rv_lss (hS.ev rfl) (hS.ev rfl)) fun a hS => ?_
  refine wpList_nil ?_
  refine hK181 _ _ ?_
  rcases ite_some hF with ⟨hc, hF⟩ | ⟨hc, hF⟩
  ·refine cond_t hS rfl hc ?_
   refine wp_skip ?_
   refine hK179 _ _ ?_
   refine wp_seq_k fun K182 hK182 => ?_
   have hJ3 : ∀ (a : Act) (w : World), Sl 64 [(1, p1_lv), (2, (int i64 p2_n)), (3, (Value.bool p3_closed)), (4, (fdp b3 0)), (10, (int i64 x130))] a → Mem (feet [(true, ow 3 p1_lv (List.map (int i64) p1_l))]) w0 w [(true, ow 3 p1_lv (List.map (int i64) p1_l)), (true, bx b3 28 [(int i64 p0_g_Size), p0_g_Rowsv]), (false, rd p0_g_Rowsv (List.map (int i64) p0_g_Rows))] → S_spec_l4Search_j3 F x130 = some res2 → K182 a w := by
    intro a w hS hM hF
    unfold S_spec_l4Search_j3 at hF
    refine hK182 _ _ ?_
    refine wp_region_lit ?_
    refine st_val hS rfl rfl (by decide) (rv_move (hS.ev rfl)) fun a hS => ?_
    refine st_val hS rfl rfl (by decide) (rv_add (hS.ev rfl) (hS.ev rfl)) fun a hS => ?_
    refine st_val hS rfl rfl (by decide) (rv_assign (hS.ev rfl)) fun a hS => ?_
    refine wpList_nil ?_
    cases hF
    exact hN2 _ _ _ rfl ⟨(hS.sub (sub_cons rfl (sub_cons rfl (sub_cons rfl (sub_cons rfl (sub_cons rfl sub_nil)))))), (hM.pick [0, 1, 2] (by decide) rfl)⟩
   refine wp_block ?_
   refine wp_seq_k fun K205 hK205 => ?_
   refine wp_region_lit ?_
   obtain ⟨v210, w, hr, hM⟩ := Mem.litE (f := (int i64)) (dst := some 30) (ty := _) (pos := _) (af := _) (gd := _) (ps := []) ([] : List (Int)) i64_one hM hS Try.underlying22 ty_el_3 rfl rfl rfl rfl
   refine st_val hS rfl rfl (by decide) hr fun a hS => ?_
   refine st_val hS rfl rfl (by decide) (rv_move (hS.ev rfl)) fun a hS => ?_
   obtain ⟨_, hx, hF⟩ := bind_some hF
   obtain ⟨v211, w, hr, hM⟩ := Mem.appE (f := (int i64)) (S := _) (R := [(true, ow 3 p1_lv (List.map (int i64) p1_l)), (true, bx b3 28 [(int i64 p0_g_Size), p0_g_Rowsv]), (false, rd p0_g_Rowsv (List.map (int i64) p0_g_Rows))]) (ρ := a.eval) (dst := some 32) (ty := _) (pos := _) (af := _) (gd := _) (x := .tmp 30) (y := .tmp 31) i64_one hM Try.underlying22 ty_el_3 rfl (by decide) (hS.ev rfl) (hS.ev rfl) (rd_of_ow (hM.get 1 rfl)) (catO_some hx)
   refine st_val hS rfl rfl (by decide) hr fun a hS => ?_
   refine st_val hS rfl rfl (by decide) (rv_move (hS.ev rfl)) fun a hS => ?_
   obtain ⟨v212, w, hr, hM⟩ := Mem.litE (f := (int i64)) (dst := some 34) (ty := _) (pos := _) (af := _) (gd := _) (ps := [(0, .tmp 33)]) ([x130] : List (Int)) i64_one hM hS Try.underlying22 ty_el_3 rfl rfl rfl rfl
   refine st_val hS rfl rfl (by decide) hr fun a hS => ?_
   obtain ⟨_, hx, hF⟩ := bind_some hF
   have hM := hM.pick [1, 0, 2, 3, 4] (by decide) rfl
   obtain ⟨v213, w, hr, hM⟩ := Mem.appE (f := (int i64)) (S := _) (R := [(true, ow 3 v212 (List.map (int i64) ([x130] : List (Int)))), (true, ow 3 p1_lv (List.map (int i64) p1_l)), (true, bx b3 28 [(int i64 p0_g_Size), p0_g_Rowsv]), (false, rd p0_g_Rowsv (List.map (int i64) p0_g_Rows))]) (ρ := a.eval) (dst := some 35) (ty := _) (pos := _) (af := _) (gd := _) (x := .tmp 32) (y := .tmp 34) i64_one hM Try.underlying22 ty_el_3 rfl (by decide) (hS.ev rfl) (hS.ev rfl) (rd_of_ow (hM.get 1 rfl)) (catO_some hx)
   refine st_val hS rfl rfl (by decide) hr fun a hS => ?_
   refine st_val hS rfl rfl (by decide) (rv_assign (hS.ev rfl)) fun a hS => ?_
   refine wpList_nil ?_
   refine hK205 _ _ ?_
   have hS : Sl 64 [(1, p1_lv), (2, (int i64 p2_n)), (3, (Value.bool p3_closed)), (4, (fdp b3 0)), (10, (int i64 x130)), (11, v213)] a := hS.sub (sub_cons rfl (sub_cons rfl (sub_cons rfl (sub_cons rfl (sub_cons rfl (sub_cons rfl sub_nil))))))
   have hM := hM.pick [0, 2, 3, 4] (by decide) rfl
   refine wp_seq_k fun K214 hK214 => ?_
   have hJ4 : ∀ (p217 : Bool) (a : Act) (w : World), Sl 64 [(1, p1_lv), (2, (int i64 p2_n)), (3, (Value.bool p3_closed)), (4, (fdp b3 0)), (10, (int i64 x130)), (11, v213), (52, (Value.bool p217))] a → Mem (feet [(true, ow 3 p1_lv (List.map (int i64) p1_l))]) w0 w [(true, ow 3 p1_lv (List.map (int i64) p1_l)), (true, bx b3 28 [(int i64 p0_g_Size), p0_g_Rowsv]), (false, rd p0_g_Rowsv (List.map (int i64) p0_g_Rows)), (true, ow 3 v213 (List.map (int i64) ((([] : List (Int)) ++ p1_l) ++ ([x130] : List (Int)))))] → S_spec_l4Search_j4 F p0_g_Size p0_g_Rows p1_l p2_n p3_closed slf x130 p217 = some res2 → K214 a w := by
    intro p217 a w hS hM hF
    unfold S_spec_l4Search_j4 at hF
    refine hK214 _ _ ?_
    rcases ite_some hF with ⟨hc, hF⟩ | ⟨hc, hF⟩
    ·refine cond_t hS rfl hc ?_
     refine wp_seq_k fun K218 hK218 => ?_
     refine wp_region_lit ?_
     refine st_val hS rfl rfl (by decide) (rv_load_agg (hS.ev rfl) ty_ag_28 (hM.get 1 rfl) ty_sz_28) fun a hS => ?_
     refine st_val hS rfl rfl (by decide) (rv_move (hS.ev rfl)) fun a hS => ?_
     refine st_val hS rfl rfl (by decide) (rv_move (hS.ev rfl)) fun a hS => ?_
     refine st_val hS rfl rfl (by decide) (rv_move (hS.ev rfl)) fun a hS => ?_
     obtain ⟨r221, hr, hF⟩ := bind_some hF
     have hM := hM.pick [3, 2, 0, 1] (by decide) rfl
     have hP := Mem.pre (A := [(true, ow 3 v213 (List.map (int i64) ((([] : List (Int)) ++ p1_l) ++ ([x130] : List (Int)))))]) (C := [(false, rd p0_g_Rowsv (List.map (int i64) p0_g_Rows))]) (B := [(true, ow 3 p1_lv (List.map (int i64) p1_l)), (true, bx b3 28 [(int i64 p0_g_Size), p0_g_Rowsv])]) hM rfl (weaks_cons (weak_self _ _) weaks_nil)
     refine st_wp hS rfl (wp_call hS rfl rfl (by decide) fn_ok_75 rfl (ih p0_g_Size p0_g_Rows ((([] : List (Int)) ++ p1_l) ++ ([x130] : List (Int))) p2_n p3_closed p0_g_Rowsv v213 hr _ hP) fun v w a hK hS => ?_)
     obtain ⟨v222, rfl, hN⟩ := hK
     have hM := Mem.callo (A := [(true, ow 3 v213 (List.map (int i64) ((([] : List (Int)) ++ p1_l) ++ ([x130] : List (Int)))))]) (B := [(false, rd p0_g_Rowsv (List.map (int i64) p0_g_Rows)), (true, ow 3 p1_lv (List.map (int i64) p1_l)), (true, bx b3 28 [(int i64 p0_g_Size), p0_g_Rowsv])]) hM rfl hN rfl
     refine st_val hS rfl rfl (by decide) (rv_move (hS.ev rfl)) fun a hS => ?_
     refine st_val hS rfl rfl (by decide) (rv_extract (hS.ev rfl) rfl) fun a hS => ?_
     refine st_val hS rfl rfl (by decide) (rv_extract (hS.ev rfl) rfl) fun a hS => ?_
     refine st_val hS rfl rfl (by decide) (rv_assign (hS.ev rfl)) fun a hS => ?_
     refine st_val hS rfl rfl (by decide) (rv_assign (hS.ev rfl)) fun a hS => ?_
     refine wpList_nil ?_
     refine hK218 _ _ ?_
     have hS : Sl 64 [(1, p1_lv), (2, (int i64 p2_n)), (3, (Value.bool p3_closed)), (4, (fdp b3 0)), (10, (int i64 x130)), (12, v222), (13, (Value.bool r221.2))] a := hS.sub (sub_cons rfl (sub_cons rfl (sub_cons rfl (sub_cons rfl (sub_cons rfl (sub_cons rfl (sub_cons rfl sub_nil)))))))
     refine wp_seq_k fun K223 hK223 => ?_
     refine wp_region_lit ?_
     refine st_val hS rfl rfl (by decide) (rv_move (hS.ev rfl)) fun a hS => ?_
     refine wpList_nil ?_
     refine hK223 _ _ ?_
     rcases ite_some hF with ⟨hc, hF⟩ | ⟨hc, hF⟩
     ·refine cond_t hS rfl hc ?_
      refine wp_seq_k fun K224 hK224 => ?_
      refine wp_region_lit ?_
      refine st_val hS rfl rfl (by decide) (rv_move (hS.ev rfl)) fun a hS => ?_
      refine st_val hS rfl rfl (by decide) (rv_assign (hS.ev rfl)) fun a hS => ?_
      refine st_val hS rfl rfl (by decide) (rv_assign (hS.ev rfl)) fun a hS => ?_
      refine wpList_nil ?_
      refine hK224 _ _ ?_
      have hS : Sl 64 [(8, v222), (9, (Value.bool true))] a := hS.sub (sub_cons rfl (sub_cons rfl sub_nil))
      have hM := hM.pick [0] (by decide) rfl
      refine wp_ret ?_
      cases hF
      have e := hX2 _ rfl
      subst e
      have hF := hF2
      cases hF
      exact hQr _ _ (r_2 hS rfl rfl rfl ⟨v222, rfl, hM.pick [0] (by decide) rfl⟩)
     ·refine cond_f hS rfl hc ?_
      refine wp_skip ?_
      exact hJ3 _ _ (hS.sub (sub_cons rfl (sub_cons rfl (sub_cons rfl (sub_cons rfl (sub_cons rfl sub_nil)))))) (hM.pick [2, 3, 1] (by decide) rfl) hF
    ·refine cond_f hS rfl hc ?_
     refine wp_skip ?_
     exact hJ3 _ _ (hS.sub (sub_cons rfl (sub_cons rfl (sub_cons rfl (sub_cons rfl (sub_cons rfl sub_nil)))))) (hM.pick [0, 1, 2] (by decide) rfl) hF
   refine wp_region_lit ?_
   refine st_val hS rfl rfl (by decide) (rv_load_agg (hS.ev rfl) ty_ag_28 (hM.get 2 rfl) ty_sz_28) fun a hS => ?_
   refine st_val hS rfl rfl (by decide) (rv_move (hS.ev rfl)) fun a hS => ?_
   obtain ⟨r225, hr, hF⟩ := bind_some hF
   refine st_wp hS rfl (wp_call hS rfl rfl (by decide) fn_ok_41 rfl (c_spec_IsInducedPath F p0_g_Size p0_g_Rows ((([] : List (Int)) ++ p1_l) ++ ([x130] : List (Int))) p0_g_Rowsv v213 hr _ (hM.get 3 rfl) (rd_of_ow (hM.get 0 rfl))) fun v w a hK hS => ?_)
   obtain ⟨rfl, hN⟩ := hK
   have hM := hM.fra hN.fr
   refine st_val hS rfl rfl (by decide) (rv_move (hS.ev rfl)) fun a hS => ?_
   rcases ite_some hF with ⟨hc, hF⟩ | ⟨hc, hF⟩
   ·have hS := hS.setb (t := 39) rfl hc
    refine st_skip hS rfl rfl (by decide) fun a hS => ?_
    refine st_skip hS rfl rfl (by decide) fun a hS => ?_
    refine st_skip hS rfl rfl (by decide) fun a hS => ?_
    refine st_skip hS rfl rfl (by decide) fun a hS => ?_
    refine st_skip hS rfl rfl (by decide) fun a hS => ?_
    refine st_skip hS rfl rfl (by decide) fun a hS => ?_
    refine st_skip hS rfl rfl (by decide) fun a hS => ?_
    refine st_skip hS rfl rfl (by decide) fun a hS => ?_
    refine st_skip hS rfl rfl (by decide) fun a hS => ?_
    refine st_skip hS rfl rfl (by decide) fun a hS => ?_
    refine st_skip hS rfl rfl (by decide) fun a hS => ?_
    refine st_skip hS rfl rfl (by decide) fun a hS => ?_
    refine st_val hS rfl rfl (by decide) (rv_pick_t (hS.ev rfl) (hS.ev rfl)) fun a hS => ?_
    refine wpList_nil ?_
    exact hJ4 true _ _ (hS.sub (sub_cons rfl (sub_cons rfl (sub_cons rfl (sub_cons rfl (sub_cons rfl (sub_cons rfl (sub_cons rfl sub_nil)))))))) (hM.pick [1, 2, 3, 0] (by decide) rfl) hF
   ·have hS := hS.setb (t := 39) rfl hc
    refine st_val hS rfl rfl (by decide) (rv_move (hS.ev rfl)) fun a hS => ?_
    refine st_val hS rfl rfl (by decide) (rv_move (hS.ev rfl)) fun a hS => ?_
    rcases ite_some hF with ⟨hc, hF⟩ | ⟨hc, hF⟩
    ·have hS := hS.setb (t := 41) rfl hc
     refine st_val hS rfl rfl (by decide) (rv_move (hS.ev rfl)) fun a hS => ?_
     refine st_val hS rfl rfl (by decide) (rv_len_rowM Try.underlying22 (hS.ev rfl) (rd_of_ow (hM.get 0 rfl))) fun a hS => ?_
     refine st_val hS rfl rfl (by decide) (rv_move (hS.ev rfl)) fun a hS => ?_
     refine st_val hS rfl rfl (by decide) (rv_eql (hS.ev rfl) (hS.ev rfl)) fun a hS => ?_
     refine st_val hS rfl rfl (by decide) (rv_pick_t (hS.ev rfl) (hS.ev rfl)) fun a hS => ?_
     refine st_val hS rfl rfl (by decide) (rv_move (hS.ev rfl)) fun a hS => ?_
     rcases ite_some hF with ⟨hc, hF⟩ | ⟨hc, hF⟩
     ·have hS := hS.setb (t := 47) rfl hc
      refine st_val hS rfl rfl (by decide) (rv_load_agg (hS.ev rfl) ty_ag_28 (hM.get 2 rfl) ty_sz_28) fun a hS => ?_
      refine st_val hS rfl rfl (by decide) (rv_move (hS.ev rfl)) fun a hS => ?_
      obtain ⟨r226, hr, hF⟩ := bind_some hF
      refine st_wp hS rfl (wp_call hS rfl rfl (by decide) fn_ok_42 rfl (c_spec_IsHole F p0_g_Size p0_g_Rows ((([] : List (Int)) ++ p1_l) ++ ([x130] : List (Int))) p0_g_Rowsv v213 hr _ (hM.get 3 rfl) (rd_of_ow (hM.get 0 rfl))) fun v w a hK hS => ?_)
      obtain ⟨rfl, hN⟩ := hK
      have hM := hM.fra hN.fr
      refine st_val hS rfl rfl (by decide) (rv_pick_t (hS.ev rfl) (hS.ev rfl)) fun a hS => ?_
      refine st_val hS rfl rfl (by decide) (rv_pick_f (hS.ev rfl) (hS.ev rfl)) fun a hS => ?_
      refine wpList_nil ?_
      exact hJ4 r226 _ _ (hS.sub (sub_cons rfl (sub_cons rfl (sub_cons rfl (sub_cons rfl (sub_cons rfl (sub_cons rfl (sub_cons rfl sub_nil)))))))) (hM.pick [1, 2, 3, 0] (by decide) rfl) hF
     ·have hS := hS.setb (t := 47) rfl hc
      refine st_skip hS rfl rfl (by decide) fun a hS => ?_
      refine st_skip hS rfl rfl (by decide) fun a hS => ?_
      refine st_skip hS rfl rfl (by decide) fun a hS => ?_
      refine st_val hS rfl rfl (by decide) (rv_pick_f (hS.ev rfl) (hS.ev rfl)) fun a hS => ?_
      refine st_val hS rfl rfl (by decide) (rv_pick_f (hS.ev rfl) (hS.ev rfl)) fun a hS => ?_
      refine wpList_nil ?_
      exact hJ4 false _ _ (hS.sub (sub_cons rfl (sub_cons rfl (sub_cons rfl (sub_cons rfl (sub_cons rfl (sub_cons rfl (sub_cons rfl sub_nil)))))))) (hM.pick [1, 2, 3, 0] (by decide) rfl) hF
    ·have hS := hS.setb (t := 41) rfl hc
     refine st_skip hS rfl rfl (by decide) fun a hS => ?_
     refine st_skip hS rfl rfl (by decide) fun a hS => ?_
     refine st_skip hS rfl rfl (by decide) fun a hS => ?_
     refine st_skip hS rfl rfl (by decide) fun a hS => ?_
     refine st_val hS rfl rfl (by decide) (rv_pick_f (hS.ev rfl) (hS.ev rfl)) fun a hS => ?_
     refine st_val hS rfl rfl (by decide) (rv_move (hS.ev rfl)) fun a hS => ?_
     refine st_skip hS rfl rfl (by decide) fun a hS => ?_
     refine st_skip hS rfl rfl (by decide) fun a hS => ?_
     refine st_skip hS rfl rfl (by decide) fun a hS => ?_
     refine st_val hS rfl rfl (by decide) (rv_pick_f (hS.ev rfl) (hS.ev rfl)) fun a hS => ?_
     refine st_val hS rfl rfl (by decide) (rv_pick_f (hS.ev rfl) (hS.ev rfl)) fun a hS => ?_
     refine wpList_nil ?_
     exact hJ4 false _ _ (hS.sub (sub_cons rfl (sub_cons rfl (sub_cons rfl (sub_cons rfl (sub_cons rfl (sub_cons rfl (sub_cons rfl sub_nil)))))))) (hM.pick [1, 2, 3, 0] (by decide) rfl) hF
  ·refine cond_f hS rfl hc ?_
   refine wp_exit ?_
   cases hF
   exact hJ1 _ _ (hS.sub sub_nil) (hM.pick [] (by decide) rfl) (by have e := hX2 _ rfl; subst e; exact hF2)

theorem c_spec_l4Search_d (F : Nat) : ∀ (D : Nat) (p0_g_Size : Int) (p0_g_Rows : List Int) (p1_l : List Int) (p2_n : Int) (p3_closed : Bool) (p0_g_Rowsv : Value) (p1_lv : Value) {r : (List (Int)) × Bool} (hF : S_spec_l4Search_d F D p0_g_Size p0_g_Rows p1_l p2_n p3_closed = some r) (w0 : World) (hM : Mem (feet [(true, ow 3 p1_lv (List.map (int i64) p1_l))]) w0 w0 [(true, ow 3 p1_lv (List.map (int i64) p1_l)), (false, rd p0_g_Rowsv (List.map (int i64) p0_g_Rows))]), Calls Try.prog 75 [(Value.agg #[(int i64 p0_g_Size), p0_g_Rowsv]), p1_lv, (int i64 p2_n), (Value.bool p3_closed)].toArray w0 (retPost fun v w' => ∃ v227, v = (Value.tuple #[v227, (Value.bool r.2)]) ∧ Mem (feet [(true, ow 3 p1_lv (List.map (int i64) p1_l))]) w0 w' [(true, ow 3 v227 (List.map (int i64) r.1))]) := by
  intro D
  induction D with
  | zero =>
    intro p0_g_Size p0_g_Rows p1_l p2_n p3_closed p0_g_Rowsv p1_lv r hF
    simp [S_spec_l4Search_d] at hF
  | succ D ih =>
    intro p0_g_Size p0_g_Rows p1_l p2_n p3_closed p0_g_Rowsv p1_lv r hF w0 hM
    rw [S_spec_l4Search_d] at hF
    exact c_spec_l4Search_b F (S_spec_l4Search_d F D) ih p0_g_Size p0_g_Rows p1_l p2_n p3_closed p0_g_Rowsv p1_lv hF w0 hM

theorem c_spec_l4Search (F : Nat) (p0_g_Size : Int) (p0_g_Rows : List Int) (p1_l : List Int) (p2_n : Int) (p3_closed : Bool) (p0_g_Rowsv : Value) (p1_lv : Value) {r : (List (Int)) × Bool} (hF : S_spec_l4Search F p0_g_Size p0_g_Rows p1_l p2_n p3_closed = some r) (w0 : World) (hM : Mem (feet [(true, ow 3 p1_lv (List.map (int i64) p1_l))]) w0 w0 [(true, ow 3 p1_lv (List.map (int i64) p1_l)), (false, rd p0_g_Rowsv (List.map (int i64) p0_g_Rows))]) : Calls Try.prog 75 [(Value.agg #[(int i64 p0_g_Size), p0_g_Rowsv]), p1_lv, (int i64 p2_n), (Value.bool p3_closed)].toArray w0 (retPost fun v w' => ∃ v227, v = (Value.tuple #[v227, (Value.bool r.2)]) ∧ Mem (feet [(true, ow 3 p1_lv (List.map (int i64) p1_l))]) w0 w' [(true, ow 3 v227 (List.map (int i64) r.1))]) :=
  c_spec_l4Search_d F F p0_g_Size p0_g_Rows p1_l p2_n p3_closed p0_g_Rowsv p1_lv hF w0 hM


theorem c_spec_FindInducedPath (F : Nat) (p0_g_Size : Int) (p0_g_Rows : List Int) (p1_n : Int) (p0_g_Rowsv : Value) {r : (List (Int)) × Bool} (hF : S_spec_FindInducedPath F p0_g_Size p0_g_Rows p1_n = some r) (w0 : World) (h0 : RdRow w0 p0_g_Rowsv (List.map (int i64) p0_g_Rows)) :
    Calls Try.prog 20 [(Value.agg #[(int i64 p0_g_Size), p0_g_Rowsv]), (int i64 p1_n)].toArray w0 (retPost fun v w' => ∃ v31, v = (Value.tuple #[v31, (Value.bool r.2)]) ∧ Mem Nob w0 w' [(true, ow 3 v31 (List.map (int i64) r.1))]) := by
 have hM : Mem Nob w0 w0 [(false, rd p0_g_Rowsv (List.map (int i64) p0_g_Rows))] := (Mem.rcons (Mem.nil w0) h0 (by simp))
 refine enter2 Try.func20 rfl rfl rfl fun Q a hQr hQn hQp hS => ?_
 have hS : Sl 28 [(0, (Value.agg #[(int i64 p0_g_Size), p0_g_Rowsv])), (1, (int i64 p1_n))] a := hS
 unfold S_spec_FindInducedPath at hF
 refine wp_seq_k fun K1 hK1 => ?_
 refine wp_region_lit ?_
 obtain ⟨b3, w, hr, hM⟩ := hM.boxE (ρ := a.eval) (dst := some 2) (ty := _) (pos := _) (af := _) (gd := _) (x := .tmp 0) (T := 28) [(int i64 p0_g_Size), p0_g_Rowsv] (hS.ev rfl) rfl
 refine st_val hS rfl rfl (by decide) hr fun a hS => ?_
 refine st_val hS rfl rfl (by decide) (rv_assign (hS.ev rfl)) fun a hS => ?_
 refine st_val hS rfl rfl (by decide) (rv_assign (hS.ev rfl)) fun a hS => ?_
 refine wpList_nil ?_
 refine hK1 _ _ ?_
 refine wp_seq_k fun K4 hK4 => ?_
 refine wp_seq_k fun K14 hK14 => ?_
 have hJ1 : ∀ (p17 : Bool) (a : Act) (w : World), Sl 28 [(1, (int i64 p1_n)), (2, (fdp b3 0)), (17, (Value.bool p17))] a → Mem Nob w0 w [(true, bx b3 28 [(int i64 p0_g_Size), p0_g_Rowsv]), (false, rd p0_g_Rowsv (List.map (int i64) p0_g_Rows))] → S_spec_FindInducedPath_j1 F p0_g_Size p0_g_Rows p1_n p17 = some r → K14 a w := by
  intro p17 a w hS hM hF
  unfold S_spec_FindInducedPath_j1 at hF
  refine hK14 _ _ ?_
  rcases ite_some hF with ⟨hc, hF⟩ | ⟨hc, hF⟩
  ·refine cond_t hS rfl hc ?_
   refine wp_seq_k fun K18 hK18 => ?_
   refine wp_region_lit ?_
   obtain ⟨v20, w, hr, hM⟩ := Mem.litE (f := (int i64)) (dst := some 18) (ty := _) (pos := _) (af := _) (gd := _) (ps := []) ([] : List (Int)) i64_one hM hS Try.underlying22 ty_el_3 rfl rfl rfl rfl
   refine st_val hS rfl rfl (by decide) hr fun a hS => ?_
   refine st_val hS rfl rfl (by decide) (rv_assign (hS.ev rfl)) fun a hS => ?_
   refine st_val hS rfl rfl (by decide) (rv_assign (hS.ev rfl)) fun a hS => ?_
   refine wpList_nil ?_
   refine hK18 _ _ ?_
   refine wp_ret ?_
   cases hF
   exact hQr _ _ (r_2 hS rfl rfl rfl ⟨v20, rfl, hM.pick [0] (by decide) rfl⟩)
  ·refine cond_f hS rfl hc ?_
   refine wp_skip ?_
   refine hK4 _ _ ?_
   refine wp_seq_k fun K21 hK21 => ?_
   refine wp_region_lit ?_
   refine st_val hS rfl rfl (by decide) (rv_load_agg (hS.ev rfl) ty_ag_28 (hM.get 0 rfl) ty_sz_28) fun a hS => ?_
   obtain ⟨v25, w, hr, hM⟩ := Mem.litE (f := (int i64)) (dst := some 21) (ty := _) (pos := _) (af := _) (gd := _) (ps := []) ([] : List (Int)) i64_one hM hS Try.underlying22 ty_el_3 rfl rfl rfl rfl
   refine st_val hS rfl rfl (by decide) hr fun a hS => ?_
   refine st_val hS rfl rfl (by decide) (rv_move (hS.ev rfl)) fun a hS => ?_
   obtain ⟨r26, hr, hF⟩ := bind_some hF
   have hM := hM.pick [0, 2, 1] (by decide) rfl
   have hP := Mem.pre (A := [(true, ow 3 v25 (List.map (int i64) ([] : List (Int))))]) (C := [(false, rd p0_g_Rowsv (List.map (int i64) p0_g_Rows))]) (B := [(true, bx b3 28 [(int i64 p0_g_Size), p0_g_Rowsv])]) hM rfl (weaks_cons (weak_self _ _) weaks_nil)
   refine st_wp hS rfl (wp_call hS rfl rfl (by decide) fn_ok_75 rfl (c_spec_l4Search F p0_g_Size p0_g_Rows ([] : List (Int)) p1_n false p0_g_Rowsv v25 hr _ hP) fun v w a hK hS => ?_)
   obtain ⟨v27, rfl, hN⟩ := hK
   have hM := Mem.callo (A := [(true, ow 3 v25 (List.map (int i64) ([] : List (Int))))]) (B := [(false, rd p0_g_Rowsv (List.map (int i64) p0_g_Rows)), (true, bx b3 28 [(int i64 p0_g_Size), p0_g_Rowsv])]) hM rfl hN rfl
   refine st_val hS rfl rfl (by decide) (rv_move (hS.ev rfl)) fun a hS => ?_
   refine st_val hS rfl rfl (by decide) (rv_extract (hS.ev rfl) rfl) fun a hS => ?_
   refine st_val hS rfl rfl (by decide) (rv_extract (hS.ev rfl) rfl) fun a hS => ?_
   refine st_val hS rfl rfl (by decide) (rv_assign (hS.ev rfl)) fun a hS => ?_
   refine st_val hS rfl rfl (by decide) (rv_assign (hS.ev rfl)) fun a hS => ?_
   refine wpList_nil ?_
   refine hK21 _ _ ?_
   have hS : Sl 28 [(6, v27), (7, (Value.bool r26.2))] a := hS.sub (sub_cons rfl (sub_cons rfl sub_nil))
   have hM := hM.pick [0] (by decide) rfl
   refine wp_seq_k fun K28 hK28 => ?_
   refine wp_region_lit ?_
   refine st_val hS rfl rfl (by decide) (rv_move (hS.ev rfl)) fun a hS => ?_
   refine st_val hS rfl rfl (by decide) (rv_move (hS.ev rfl)) fun a hS => ?_
   refine st_val hS rfl rfl (by decide) (rv_assign (hS.ev rfl)) fun a hS => ?_
   refine st_val hS rfl rfl (by decide) (rv_assign (hS.ev rfl)) fun a hS => ?_
   refine wpList_nil ?_
   refine hK28 _ _ ?_
   refine wp_ret ?_
   cases hF
   exact hQr _ _ (r_2 hS rfl rfl rfl ⟨v27, rfl, hM.pick [0] (by decide) rfl⟩)
 refine wp_region_lit ?_
 refine st_val hS rfl rfl (by decide) (rv_load_agg (hS.ev rfl) ty_ag_28 (hM.get 0 rfl) ty_sz_28) fun a hS => ?_
 obtain ⟨r29, hr, hF⟩ := bind_some hF
 refine st_wp hS rfl (wp_call hS rfl rfl (by decide) fn_ok_73 rfl (c_spec_IsGraph F p0_g_Size p0_g_Rows p0_g_Rowsv hr _ (hM.get 1 rfl)) fun v w a hK hS => ?_)
 obtain ⟨rfl, hN⟩ := hK
 have hM := hM.fra hN.fr
 refine st_val hS rfl rfl (by decide) (rv_not (hS.ev rfl)) fun a hS => ?_
 refine st_val hS rfl rfl (by decide) (rv_move (hS.ev rfl)) fun a hS => ?_
 rcases ite_some hF with ⟨hc, hF⟩ | ⟨hc, hF⟩
 ·have hS := hS.setb (t := 11) rfl hc
  refine st_skip hS rfl rfl (by decide) fun a hS => ?_
  refine st_skip hS rfl rfl (by decide) fun a hS => ?_
  refine st_skip hS rfl rfl (by decide) fun a hS => ?_
  refine st_skip hS rfl rfl (by decide) fun a hS => ?_
  refine st_skip hS rfl rfl (by decide) fun a hS => ?_
  refine st_val hS rfl rfl (by decide) (rv_pick_t (hS.ev rfl) (hS.ev rfl)) fun a hS => ?_
  refine wpList_nil ?_
  exact hJ1 true _ _ (hS.sub (sub_cons rfl (sub_cons rfl (sub_cons rfl sub_nil)))) (hM.pick [0, 1] (by decide) rfl) hF
 ·have hS := hS.setb (t := 11) rfl hc
  refine st_val hS rfl rfl (by decide) (rv_move (hS.ev rfl)) fun a hS => ?_
  refine st_val hS rfl rfl (by decide) (rv_fieldAddr ty_fd_28_0 (hS.ev rfl)) fun a hS => ?_
  refine st_val hS rfl rfl (by decide) (rv_load_bx (hS.ev rfl) ty_ag_3 (hM.get 0 rfl) rfl) fun a hS => ?_
  obtain ⟨r30, hr, hF⟩ := bind_some hF
  refine st_wp hS rfl (wp_call hS rfl rfl (by decide) fn_ok_74 rfl (c_spec_l1In F p1_n 1 p0_g_Size hr _) fun v w a hK hS => ?_)
  obtain ⟨rfl, hN⟩ := hK
  have hM := hM.fra hN.fr
  refine st_val hS rfl rfl (by decide) (rv_not (hS.ev rfl)) fun a hS => ?_
  refine st_val hS rfl rfl (by decide) (rv_pick_f (hS.ev rfl) (hS.ev rfl)) fun a hS => ?_
  refine wpList_nil ?_
  exact hJ1 (!r30) _ _ (hS.sub (sub_cons rfl (sub_cons rfl (sub_cons rfl sub_nil)))) (hM.pick [0, 1] (by decide) rfl) hF


end Go.Proofs.Ytilfniehellmmaa
