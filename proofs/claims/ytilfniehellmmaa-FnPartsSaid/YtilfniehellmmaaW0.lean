/- Proved here: that each Go function does what its shallow function says -/
import Derived.Test.YtilfniehellmmaaSh
import Derived.Test.YtilfniehellmmaaTy
import Derived.Test.YtilfniehellmmaaK13
namespace Go.Proofs.Ytilfniehellmmaa
open Go Go.RowKit
set_option linter.unusedVariables false
set_option linter.unusedSimpArgs false
set_option maxRecDepth 100000
set_option maxHeartbeats 40000000

open Go.IntKind (i64)
open Go.Value (int)
theorem c_spec_l1In (F : Nat) (p0_x : Int) (p1_low : Int) (p2_high : Int) {r : Bool} (hF : S_spec_l1In F p0_x p1_low p2_high = some r) (w0 : World) :
    Calls Try.prog 74 [(int i64 p0_x), (int i64 p1_low), (int i64 p2_high)].toArray w0 (retPost fun v w' => v = (Value.bool r) ∧ Mem Nob w0 w' []) := by
 have hM : Mem Nob w0 w0 [] := (Mem.nil w0)
 refine enter2 Try.func74 rfl rfl rfl fun Q a hQr hQn hQp hS => ?_
 have hS : Sl 15 [(0, (int i64 p0_x)), (1, (int i64 p1_low)), (2, (int i64 p2_high))] a := hS
 unfold S_spec_l1In at hF
 refine wp_seq_k fun K1 hK1 => ?_
 refine wp_region_lit ?_
 refine st_val hS rfl rfl (by decide) (rv_assign (hS.ev rfl)) fun a hS => ?_
 refine wpList_nil ?_
 refine hK1 _ _ ?_
 refine wp_seq_k fun K2 hK2 => ?_
 have hJ1 : ∀ (p3 : Bool) (a : Act) (w : World), Sl 15 [(6, (Value.bool p3))] a → Mem Nob w0 w [] → S_spec_l1In_j1 F p3 = some r → K2 a w := by
  intro p3 a w hS hM hF
  unfold S_spec_l1In_j1 at hF
  refine hK2 _ _ ?_
  refine wp_ret ?_
  cases hF
  exact hQr _ _ (r_1 hS rfl rfl ⟨rfl, hM.pick [] (by decide) rfl⟩)
 refine wp_region_lit ?_
 refine st_val hS rfl rfl (by decide) (rv_move (hS.ev rfl)) fun a hS => ?_
 refine st_val hS rfl rfl (by decide) (rv_move (hS.ev rfl)) fun a hS => ?_
 refine st_val hS rfl rfl (by decide) (rv_geq (hS.ev rfl) (hS.ev rfl)) fun a hS => ?_
 refine st_val hS rfl rfl (by decide) (rv_move (hS.ev rfl)) fun a hS => ?_
 rcases ite_some hF with ⟨hc, hF⟩ | ⟨hc, hF⟩
 ·have hS := hS.setb (t := 10) rfl hc
  refine st_val hS rfl rfl (by decide) (rv_move (hS.ev rfl)) fun a hS => ?_
  refine st_val hS rfl rfl (by decide) (rv_move (hS.ev rfl)) fun a hS => ?_
  refine st_val hS rfl rfl (by decide) (rv_leq (hS.ev rfl) (hS.ev rfl)) fun a hS => ?_
  refine st_val hS rfl rfl (by decide) (rv_pick_t (hS.ev rfl) (hS.ev rfl)) fun a hS => ?_
  refine st_val hS rfl rfl (by decide) (rv_assign (hS.ev rfl)) fun a hS => ?_
  refine wpList_nil ?_
  exact hJ1 (decide (p0_x ≤ p2_high)) _ _ (hS.sub (sub_cons rfl sub_nil)) (hM.pick [] (by decide) rfl) hF
 ·have hS := hS.setb (t := 10) rfl hc
  refine st_skip hS rfl rfl (by decide) fun a hS => ?_
  refine st_skip hS rfl rfl (by decide) fun a hS => ?_
  refine st_skip hS rfl rfl (by decide) fun a hS => ?_
  refine st_val hS rfl rfl (by decide) (rv_pick_f (hS.ev rfl) (hS.ev rfl)) fun a hS => ?_
  refine st_val hS rfl rfl (by decide) (rv_assign (hS.ev rfl)) fun a hS => ?_
  refine wpList_nil ?_
  exact hJ1 false _ _ (hS.sub (sub_cons rfl sub_nil)) (hM.pick [] (by decide) rfl) hF


theorem c_spec_SetOf (F : Nat) (p0_l : List Int) (p0_lv : Value) {r : Int × Bool} (hF : S_spec_SetOf F p0_l = some r) (w0 : World) (h0 : RdRow w0 p0_lv (List.map (int i64) p0_l)) :
    Calls Try.prog 123 [p0_lv].toArray w0 (retPost fun v w' => v = (Value.tuple #[(int i64 r.1), (Value.bool r.2)]) ∧ Mem Nob w0 w' []) := by
 have hM : Mem Nob w0 w0 [(false, rd p0_lv (List.map (int i64) p0_l))] := (Mem.rcons (Mem.nil w0) h0 (by simp))
 refine enter2 Try.func123 rfl rfl rfl fun Q a hQr hQn hQp hS => ?_
 have hS : Sl 36 [(0, p0_lv)] a := hS
 unfold S_spec_SetOf at hF
 refine wp_seq_k fun K1 hK1 => ?_
 refine wp_region_lit ?_
 refine st_val hS rfl rfl (by decide) (rv_assign (hS.ev rfl)) fun a hS => ?_
 refine st_val hS rfl rfl (by decide) (rv_assign (hS.ev rfl)) fun a hS => ?_
 refine wpList_nil ?_
 refine hK1 _ _ ?_
 refine wp_seq_k fun K2 hK2 => ?_
 refine wp_region_lit ?_
 refine st_val hS rfl rfl (by decide) (rv_assign (hS.ev rfl)) fun a hS => ?_
 refine wpList_nil ?_
 refine hK2 _ _ ?_
 refine wp_seq_k fun K3 hK3 => ?_
 have hJ1 : ∀ (x95 : Int) (a : Act) (w : World), Sl 36 [(4, (int i64 x95))] a → Mem Nob w0 w [] → S_spec_SetOf_j1 F x95 = some r → K3 a w := by
  intro x95 a w hS hM hF
  unfold S_spec_SetOf_j1 at hF
  refine hK3 _ _ ?_
  refine wp_seq_k fun K96 hK96 => ?_
  refine wp_region_lit ?_
  refine st_val hS rfl rfl (by decide) (rv_move (hS.ev rfl)) fun a hS => ?_
  refine st_val hS rfl rfl (by decide) (rv_assign (hS.ev rfl)) fun a hS => ?_
  refine st_val hS rfl rfl (by decide) (rv_assign (hS.ev rfl)) fun a hS => ?_
  refine wpList_nil ?_
  refine hK96 _ _ ?_
  refine wp_ret ?_
  cases hF
  exact hQr _ _ (r_2 hS rfl rfl rfl ⟨rfl, hM.pick [] (by decide) rfl⟩)
 refine wp_seq_k fun K97 hK97 => ?_
 refine wp_region_lit ?_
 refine st_val hS rfl rfl (by decide) (rv_assign (hS.ev rfl)) fun a hS => ?_
 refine wpList_nil ?_
 refine hK97 _ _ ?_
 refine wp_block ?_
 obtain ⟨lb2, hl2, hF2⟩ := bind_some hF
 refine wp_loop_sh (fun s => S_spec_SetOf_l2 F p0_l s.1 s.2) (fun s a w => Sl 36 [(0, p0_lv), (4, (int i64 s.1)), (5, (int i64 s.2))] a ∧ Mem Nob w0 w [(false, rd p0_lv (List.map (int i64) p0_l))]) hl2 ⟨(hS.sub (sub_cons rfl (sub_cons rfl (sub_cons rfl sub_nil)))), (hM.pick [0] (by decide) rfl)⟩ ?_
 rintro K2 ⟨x98, x99⟩ a w res2 ⟨hS, hM⟩ hF hN2 hX2
 have hF : S_spec_SetOf_l2 F p0_l x98 x99 = some res2 := hF
 have hS : Sl 36 [(0, p0_lv), (4, (int i64 x98)), (5, (int i64 x99))] a := hS
 have hM : Mem Nob w0 w [(false, rd p0_lv (List.map (int i64) p0_l))] := hM
 unfold S_spec_SetOf_l2 at hF
 refine wp_seq_k fun K144 hK144 => ?_
 refine wp_seq_k fun K146 hK146 => ?_
 refine wp_region_lit ?_
 refine st_val hS rfl rfl (by decide) (rv_move (hS.ev rfl)) fun a hS => ?_
 refine st_val hS rfl rfl (by decide) (rv_move (hS.ev rfl)) fun a hS => ?_
 refine st_val hS rfl rfl (by decide) (rv_len_rowM Try.underlying22 (hS.ev rfl) (hM.get 0 rfl)) fun a hS => ?_
 refine st_val hS rfl rfl (by decide) (rv_lss (hS.ev rfl) (hS.ev rfl)) fun a hS => ?_
 refine wpList_nil ?_
 refine hK146 _ _ ?_
 rcases ite_some hF with ⟨hc, hF⟩ | ⟨hc, hF⟩
 ·refine cond_t hS rfl hc ?_
  refine wp_skip ?_
  refine hK144 _ _ ?_
  refine wp_seq_k fun K147 hK147 => ?_
  refine wp_block ?_
  refine wp_seq_k fun K168 hK168 => ?_
  refine wp_seq_k fun K178 hK178 => ?_
  have hJ3 : ∀ (p182 : Bool) (a : Act) (w : World), Sl 36 [(0, p0_lv), (4, (int i64 x98)), (5, (int i64 x99)), (27, (Value.bool p182))] a → Mem Nob w0 w [(false, rd p0_lv (List.map (int i64) p0_l))] → S_spec_SetOf_j3 F p0_l x98 x99 p182 = some res2 → K178 a w := by
   intro p182 a w hS hM hF
   unfold S_spec_SetOf_j3 at hF
   refine hK178 _ _ ?_
   rcases ite_some hF with ⟨hc, hF⟩ | ⟨hc, hF⟩
   ·refine cond_t hS rfl hc ?_
    refine wp_seq_k fun K183 hK183 => ?_
    refine wp_region_lit ?_
    refine st_val hS rfl rfl (by decide) (rv_assign (hS.ev rfl)) fun a hS => ?_
    refine st_val hS rfl rfl (by decide) (rv_assign (hS.ev rfl)) fun a hS => ?_
    refine wpList_nil ?_
    refine hK183 _ _ ?_
    refine wp_ret ?_
    cases hF
    have e := hX2 _ rfl
    subst e
    have hF := hF2
    cases hF
    exact hQr _ _ (r_2 hS rfl rfl rfl ⟨rfl, hM.pick [] (by decide) rfl⟩)
   ·refine cond_f hS rfl hc ?_
    refine wp_skip ?_
    refine hK168 _ _ ?_
    refine wp_region_lit ?_
    refine st_val hS rfl rfl (by decide) (rv_move (hS.ev rfl)) fun a hS => ?_
    refine st_val hS rfl rfl (by decide) (rv_move (hS.ev rfl)) fun a hS => ?_
    refine st_val hS rfl rfl (by decide) (rv_move (hS.ev rfl)) fun a hS => ?_
    obtain ⟨x184, hx, hF⟩ := bind_some hF
    obtain ⟨hi0, hi1, hex184⟩ := idxL_some hx
    refine st_val hS rfl rfl (by decide) (rv_indexAddr Try.underlying22 ty_el_3 (hS.ev rfl) (hS.ev rfl) (hM.get 0 rfl) hi0 (map_len hi1)) fun a hS => ?_
    refine st_val hS rfl rfl (by decide) (rv_load_el (hS.ev rfl) ty_ag_3 (hM.get 0 rfl) (mget hex184)) fun a hS => ?_
    obtain ⟨_, hx, hF⟩ := bind_some hF
    have hi0 := nnO_some hx
    refine st_val hS rfl rfl (by decide) (rv_shl (hS.ev rfl) (hS.ev rfl) hi0) fun a hS => ?_
    refine st_val hS rfl rfl (by decide) (rv_add (hS.ev rfl) (hS.ev rfl)) fun a hS => ?_
    refine st_val hS rfl rfl (by decide) (rv_assign (hS.ev rfl)) fun a hS => ?_
    refine wpList_nil ?_
    refine hK147 _ _ ?_
    have hS : Sl 36 [(0, p0_lv), (4, (int i64 (i64.wrap (x98 + (shL 1 x184))))), (5, (int i64 x99))] a := hS.sub (sub_cons rfl (sub_cons rfl (sub_cons rfl sub_nil)))
    refine wp_region_lit ?_
    refine st_val hS rfl rfl (by decide) (rv_move (hS.ev rfl)) fun a hS => ?_
    refine st_val hS rfl rfl (by decide) (rv_add (hS.ev rfl) (hS.ev rfl)) fun a hS => ?_
    refine st_val hS rfl rfl (by decide) (rv_assign (hS.ev rfl)) fun a hS => ?_
    refine wpList_nil ?_
    cases hF
    exact hN2 _ _ _ rfl ⟨(hS.sub (sub_cons rfl (sub_cons rfl (sub_cons rfl sub_nil)))), (hM.pick [0] (by decide) rfl)⟩
  refine wp_region_lit ?_
  refine st_val hS rfl rfl (by decide) (rv_move (hS.ev rfl)) fun a hS => ?_
  refine st_val hS rfl rfl (by decide) (rv_move (hS.ev rfl)) fun a hS => ?_
  obtain ⟨x185, hx, hF⟩ := bind_some hF
  obtain ⟨hi0, hi1, hex185⟩ := idxL_some hx
  refine st_val hS rfl rfl (by decide) (rv_indexAddr Try.underlying22 ty_el_3 (hS.ev rfl) (hS.ev rfl) (hM.get 0 rfl) hi0 (map_len hi1)) fun a hS => ?_
  refine st_val hS rfl rfl (by decide) (rv_load_el (hS.ev rfl) ty_ag_3 (hM.get 0 rfl) (mget hex185)) fun a hS => ?_
  obtain ⟨r186, hr, hF⟩ := bind_some hF
  refine st_wp hS rfl (wp_call hS rfl rfl (by decide) fn_ok_74 rfl (c_spec_l1In F x185 0 6 hr _) fun v w a hK hS => ?_)
  obtain ⟨rfl, hN⟩ := hK
  have hM := hM.fra hN.fr
  refine st_val hS rfl rfl (by decide) (rv_not (hS.ev rfl)) fun a hS => ?_
  refine st_val hS rfl rfl (by decide) (rv_move (hS.ev rfl)) fun a hS => ?_
  rcases ite_some hF with ⟨hc, hF⟩ | ⟨hc, hF⟩
  ·have hS := hS.setb (t := 18) rfl hc
   refine st_skip hS rfl rfl (by decide) fun a hS => ?_
   refine st_skip hS rfl rfl (by decide) fun a hS => ?_
   refine st_skip hS rfl rfl (by decide) fun a hS => ?_
   refine st_skip hS rfl rfl (by decide) fun a hS => ?_
   refine st_skip hS rfl rfl (by decide) fun a hS => ?_
   refine st_skip hS rfl rfl (by decide) fun a hS => ?_
   refine st_skip hS rfl rfl (by decide) fun a hS => ?_
   refine st_skip hS rfl rfl (by decide) fun a hS => ?_
   refine st_val hS rfl rfl (by decide) (rv_pick_t (hS.ev rfl) (hS.ev rfl)) fun a hS => ?_
   refine wpList_nil ?_
   exact hJ3 true _ _ (hS.sub (sub_cons rfl (sub_cons rfl (sub_cons rfl (sub_cons rfl sub_nil))))) (hM.pick [0] (by decide) rfl) hF
  ·have hS := hS.setb (t := 18) rfl hc
   refine st_val hS rfl rfl (by decide) (rv_move (hS.ev rfl)) fun a hS => ?_
   refine st_val hS rfl rfl (by decide) (rv_move (hS.ev rfl)) fun a hS => ?_
   refine st_val hS rfl rfl (by decide) (rv_move (hS.ev rfl)) fun a hS => ?_
   obtain ⟨x187, hx, hF⟩ := bind_some hF
   obtain ⟨hi0, hi1, hex187⟩ := idxL_some hx
   refine st_val hS rfl rfl (by decide) (rv_indexAddr Try.underlying22 ty_el_3 (hS.ev rfl) (hS.ev rfl) (hM.get 0 rfl) hi0 (map_len hi1)) fun a hS => ?_
   refine st_val hS rfl rfl (by decide) (rv_load_el (hS.ev rfl) ty_ag_3 (hM.get 0 rfl) (mget hex187)) fun a hS => ?_
   obtain ⟨_, hx, hF⟩ := bind_some hF
   have hi0 := nnO_some hx
   refine st_val hS rfl rfl (by decide) (rv_shr (hS.ev rfl) (hS.ev rfl) hi0) fun a hS => ?_
   refine st_val hS rfl rfl (by decide) (rv_and (hS.ev rfl) (hS.ev rfl)) fun a hS => ?_
   refine st_val hS rfl rfl (by decide) (rv_eql (hS.ev rfl) (hS.ev rfl)) fun a hS => ?_
   refine st_val hS rfl rfl (by decide) (rv_pick_f (hS.ev rfl) (hS.ev rfl)) fun a hS => ?_
   refine wpList_nil ?_
   exact hJ3 ((bAnd (shR x98 x187) 1) == 1) _ _ (hS.sub (sub_cons rfl (sub_cons rfl (sub_cons rfl (sub_cons rfl sub_nil))))) (hM.pick [0] (by decide) rfl) hF
 ·refine cond_f hS rfl hc ?_
  refine wp_exit ?_
  cases hF
  exact hJ1 x98 _ _ (hS.sub (sub_cons rfl sub_nil)) (hM.pick [] (by decide) rfl) (by have e := hX2 _ rfl; subst e; exact hF2)


theorem c_spec_IsGraph (F : Nat) (p0_g_Size : Int) (p0_g_Rows : List Int) (p0_g_Rowsv : Value) {r : Bool} (hF : S_spec_IsGraph F p0_g_Size p0_g_Rows = some r) (w0 : World) (h0 : RdRow w0 p0_g_Rowsv (List.map (int i64) p0_g_Rows)) :
    Calls Try.prog 73 [(Value.agg #[(int i64 p0_g_Size), p0_g_Rowsv])].toArray w0 (retPost fun v w' => v = (Value.bool r) ∧ Mem Nob w0 w' []) := by
 have hM : Mem Nob w0 w0 [(false, rd p0_g_Rowsv (List.map (int i64) p0_g_Rows))] := (Mem.rcons (Mem.nil w0) h0 (by simp))
 refine enter2 Try.func73 rfl rfl rfl fun Q a hQr hQn hQp hS => ?_
 have hS : Sl 96 [(0, (Value.agg #[(int i64 p0_g_Size), p0_g_Rowsv]))] a := hS
 unfold S_spec_IsGraph at hF
 refine wp_seq_k fun K1 hK1 => ?_
 refine wp_region_lit ?_
 obtain ⟨b3, w, hr, hM⟩ := hM.boxE (ρ := a.eval) (dst := some 1) (ty := _) (pos := _) (af := _) (gd := _) (x := .tmp 0) (T := 28) [(int i64 p0_g_Size), p0_g_Rowsv] (hS.ev rfl) rfl
 refine st_val hS rfl rfl (by decide) hr fun a hS => ?_
 refine st_val hS rfl rfl (by decide) (rv_assign (hS.ev rfl)) fun a hS => ?_
 refine wpList_nil ?_
 refine hK1 _ _ ?_
 refine wp_seq_k fun K4 hK4 => ?_
 refine wp_seq_k fun K10 hK10 => ?_
 have hJ1 : ∀ (p12 : Bool) (a : Act) (w : World), Sl 96 [(1, (fdp b3 0)), (16, (Value.bool p12))] a → Mem Nob w0 w [(true, bx b3 28 [(int i64 p0_g_Size), p0_g_Rowsv]), (false, rd p0_g_Rowsv (List.map (int i64) p0_g_Rows))] → S_spec_IsGraph_j1 F p0_g_Size p0_g_Rows p12 = some r → K10 a w := by
  intro p12 a w hS hM hF
  unfold S_spec_IsGraph_j1 at hF
  refine hK10 _ _ ?_
  rcases ite_some hF with ⟨hc, hF⟩ | ⟨hc, hF⟩
  ·refine cond_t hS rfl hc ?_
   refine wp_seq_k fun K13 hK13 => ?_
   refine wp_region_lit ?_
   refine st_val hS rfl rfl (by decide) (rv_assign (hS.ev rfl)) fun a hS => ?_
   refine wpList_nil ?_
   refine hK13 _ _ ?_
   refine wp_ret ?_
   cases hF
   exact hQr _ _ (r_1 hS rfl rfl ⟨rfl, hM.pick [] (by decide) rfl⟩)
  ·refine cond_f hS rfl hc ?_
   refine wp_skip ?_
   refine hK4 _ _ ?_
   refine wp_seq_k fun K14 hK14 => ?_
   have hJ2 : ∀ (a : Act) (w : World), Sl 96 [] a → Mem Nob w0 w [] → S_spec_IsGraph_j2 F = some r → K14 a w := by
    intro a w hS hM hF
    unfold S_spec_IsGraph_j2 at hF
    refine hK14 _ _ ?_
    refine wp_seq_k fun K317 hK317 => ?_
    refine wp_region_lit ?_
    refine st_val hS rfl rfl (by decide) (rv_assign (hS.ev rfl)) fun a hS => ?_
    refine wpList_nil ?_
    refine hK317 _ _ ?_
    refine wp_ret ?_
    cases hF
    exact hQr _ _ (r_1 hS rfl rfl ⟨rfl, hM.pick [] (by decide) rfl⟩)
   refine wp_seq_k fun K318 hK318 => ?_
   refine wp_region_lit ?_
   refine st_val hS rfl rfl (by decide) (rv_assign (hS.ev rfl)) fun a hS => ?_
   refine wpList_nil ?_
   refine hK318 _ _ ?_
   refine wp_block ?_
   obtain ⟨lb3, hl3, hF3⟩ := bind_some hF
   refine wp_loop_sh (fun s => S_spec_IsGraph_l3 F p0_g_Size p0_g_Rows s) (fun s a w => Sl 96 [(1, (fdp b3 0)), (3, (int i64 s))] a ∧ Mem Nob w0 w [(true, bx b3 28 [(int i64 p0_g_Size), p0_g_Rowsv]), (false, rd p0_g_Rowsv (List.map (int i64) p0_g_Rows))]) hl3 ⟨(hS.sub (sub_cons rfl (sub_cons rfl sub_nil))), (hM.pick [0, 1] (by decide) rfl)⟩ ?_
   rintro K3 x319 a w res3 ⟨hS, hM⟩ hF hN3 hX3
   have hF : S_spec_IsGraph_l3 F p0_g_Size p0_g_Rows x319 = some res3 := hF
   have hS : Sl 96 [(1, (fdp b3 0)), (3, (int i64 x319))] a := hS
   have hM : Mem Nob w0 w [(true, bx b3 28 [(int i64 p0_g_Size), p0_g_Rowsv]), (false, rd p0_g_Rowsv (List.map (int i64) p0_g_Rows))] := hM
   unfold S_spec_IsGraph_l3 at hF
   refine wp_seq_k fun K470 hK470 => ?_
   refine wp_seq_k fun K472 hK472 => ?_
   refine wp_region_lit ?_
   refine st_val hS rfl rfl (by decide) (rv_move (hS.ev rfl)) fun a hS => ?_
   refine st_val hS rfl rfl (by decide) (rv_fieldAddr ty_fd_28_0 (hS.ev rfl)) fun a hS => ?_
   refine st_val hS rfl rfl (by decide) (rv_load_bx (hS.ev rfl) ty_ag_3 (hM.get 0 rfl) rfl) fun a hS => ?_
   refine st_val hS rfl rfl (by decide) (rv_lss (hS.ev rfl) (hS.ev rfl)) fun a hS => ?_
   refine wpList_nil ?_
   refine hK472 _ _ ?_
   rcases ite_some hF with ⟨hc, hF⟩ | ⟨hc, hF⟩
   ·refine cond_t hS rfl hc ?_
    refine wp_skip ?_
    refine hK470 _ _ ?_
    refine wp_seq_k fun K473 hK473 => ?_
    have hJ4 : ∀ (a : Act) (w : World), Sl 96 [(1, (fdp b3 0)), (3, (int i64 x319))] a → Mem Nob w0 w [(true, bx b3 28 [(int i64 p0_g_Size), p0_g_Rowsv]), (false, rd p0_g_Rowsv (List.map (int i64) p0_g_Rows))] → S_spec_IsGraph_j4 F x319 = some res3 → K473 a w := by
     intro a w hS hM hF
     unfold S_spec_IsGraph_j4 at hF
     refine hK473 _ _ ?_
     refine wp_region_lit ?_
     refine st_val hS rfl rfl (by decide) (rv_move (hS.ev rfl)) fun a hS => ?_
     refine st_val hS rfl rfl (by decide) (rv_add (hS.ev rfl) (hS.ev rfl)) fun a hS => ?_
     refine st_val hS rfl rfl (by decide) (rv_assign (hS.ev rfl)) fun a hS => ?_
     refine wpList_nil ?_
     cases hF
     exact hN3 _ _ _ rfl ⟨(hS.sub (sub_cons rfl (sub_cons rfl sub_nil))), (hM.pick [0, 1] (by decide) rfl)⟩
    refine wp_block ?_
    refine wp_seq_k fun K547 hK547 => ?_
    refine wp_seq_k fun K557 hK557 => ?_
    have hJ5 : ∀ (p561 : Bool) (a : Act) (w : World), Sl 96 [(1, (fdp b3 0)), (3, (int i64 x319)), (50, (Value.bool p561))] a → Mem Nob w0 w [(true, bx b3 28 [(int i64 p0_g_Size), p0_g_Rowsv]), (false, rd p0_g_Rowsv (List.map (int i64) p0_g_Rows))] → S_spec_IsGraph_j5 F p0_g_Size p0_g_Rows x319 p561 = some res3 → K557 a w := by
     intro p561 a w hS hM hF
     unfold S_spec_IsGraph_j5 at hF
     refine hK557 _ _ ?_
     rcases ite_some hF with ⟨hc, hF⟩ | ⟨hc, hF⟩
     ·refine cond_t hS rfl hc ?_
      refine wp_seq_k fun K562 hK562 => ?_
      refine wp_region_lit ?_
      refine st_val hS rfl rfl (by decide) (rv_assign (hS.ev rfl)) fun a hS => ?_
      refine wpList_nil ?_
      refine hK562 _ _ ?_
      refine wp_ret ?_
      cases hF
      have e := hX3 _ rfl
      subst e
      have hF := hF3
      cases hF
      exact hQr _ _ (r_1 hS rfl rfl ⟨rfl, hM.pick [] (by decide) rfl⟩)
     ·refine cond_f hS rfl hc ?_
      refine wp_skip ?_
      refine hK547 _ _ ?_
      refine wp_seq_k fun K563 hK563 => ?_
      refine wp_region_lit ?_
      refine st_val hS rfl rfl (by decide) (rv_assign (hS.ev rfl)) fun a hS => ?_
      refine wpList_nil ?_
      refine hK563 _ _ ?_
      refine wp_block ?_
      obtain ⟨lb6, hl6, hF6⟩ := bind_some hF
      refine wp_loop_sh (fun s => S_spec_IsGraph_l6 F p0_g_Size p0_g_Rows x319 s) (fun s a w => Sl 96 [(1, (fdp b3 0)), (3, (int i64 x319)), (4, (int i64 s))] a ∧ Mem Nob w0 w [(true, bx b3 28 [(int i64 p0_g_Size), p0_g_Rowsv]), (false, rd p0_g_Rowsv (List.map (int i64) p0_g_Rows))]) hl6 ⟨(hS.sub (sub_cons rfl (sub_cons rfl (sub_cons rfl sub_nil)))), (hM.pick [0, 1] (by decide) rfl)⟩ ?_
      rintro K6 x564 a w res6 ⟨hS, hM⟩ hF hN6 hX6
      have hF : S_spec_IsGraph_l6 F p0_g_Size p0_g_Rows x319 x564 = some res6 := hF
      have hS : Sl 96 [(1, (fdp b3 0)), (3, (int i64 x319)), (4, (int i64 x564))] a := hS
      have hM : Mem Nob w0 w [(true, bx b3 28 [(int i64 p0_g_Size), p0_g_Rowsv]), (false, rd p0_g_Rowsv (List.map (int i64) p0_g_Rows))] := hM
      unfold S_spec_IsGraph_l6 at hF
      refine wp_seq_k fun K591 hK591 => ?_
      refine wp_seq_k fun K593 hK593 => ?_
      refine wp_region_lit ?_
      refine st_val hS rfl rfl (by decide) (rv_move (hS.ev rfl)) fun a hS => ?_
      refine st_val hS rfl rfl (by decide) (rv_fieldAddr ty_fd_28_0 (hS.ev rfl)) fun a hS => ?_
      refine st_val hS rfl rfl (by decide) (rv_load_bx (hS.ev rfl) ty_ag_3 (hM.get 0 rfl) rfl) fun a hS => ?_
      refine st_val hS rfl rfl (by decide) (rv_lss (hS.ev rfl) (hS.ev rfl)) fun a hS => ?_
      refine wpList_nil ?_
      refine hK593 _ _ ?_
      rcases ite_some hF with ⟨hc, hF⟩ | ⟨hc, hF⟩
      ·refine cond_t hS rfl hc ?_
       refine wp_skip ?_
       refine hK591 _ _ ?_
       refine wp_seq_k fun K594 hK594 => ?_
       refine wp_block ?_
       refine wp_seq_k fun K606 hK606 => ?_
       have hJ7 : ∀ (p611 : Bool) (a : Act) (w : World), Sl 96 [(1, (fdp b3 0)), (3, (int i64 x319)), (4, (int i64 x564)), (95, (Value.bool p611))] a → Mem Nob w0 w [(true, bx b3 28 [(int i64 p0_g_Size), p0_g_Rowsv]), (false, rd p0_g_Rowsv (List.map (int i64) p0_g_Rows))] → S_spec_IsGraph_j7 F x564 p611 = some res6 → K606 a w := by
        intro p611 a w hS hM hF
        unfold S_spec_IsGraph_j7 at hF
        refine hK606 _ _ ?_
        rcases ite_some hF with ⟨hc, hF⟩ | ⟨hc, hF⟩
        ·refine cond_t hS rfl hc ?_
         refine wp_seq_k fun K612 hK612 => ?_
         refine wp_region_lit ?_
         refine st_val hS rfl rfl (by decide) (rv_assign (hS.ev rfl)) fun a hS => ?_
         refine wpList_nil ?_
         refine hK612 _ _ ?_
         refine wp_ret ?_
         cases hF
         have e := hX6 _ rfl
         subst e
         have hF := hF6
         cases hF
         have e := hX3 _ rfl
         subst e
         have hF := hF3
         cases hF
         exact hQr _ _ (r_1 hS rfl rfl ⟨rfl, hM.pick [] (by decide) rfl⟩)
        ·refine cond_f hS rfl hc ?_
         refine wp_skip ?_
         refine hK594 _ _ ?_
         refine wp_region_lit ?_
         refine st_val hS rfl rfl (by decide) (rv_move (hS.ev rfl)) fun a hS => ?_
         refine st_val hS rfl rfl (by decide) (rv_add (hS.ev rfl) (hS.ev rfl)) fun a hS => ?_
         refine st_val hS rfl rfl (by decide) (rv_assign (hS.ev rfl)) fun a hS => ?_
         refine wpList_nil ?_
         cases hF
         exact hN6 _ _ _ rfl ⟨(hS.sub (sub_cons rfl (sub_cons rfl (sub_cons rfl sub_nil)))), (hM.pick [0, 1] (by decide) rfl)⟩
       refine an_startB 39 Nob ty_mixed (by kernel_rfl) fun w hf => ?_
       have hM := hM.fra hf
       have hB := hM
       have hM := hB.reg0
       refine tkB hS 0 1 (by as_aux_lemma => kernel_rfl) rfl rfl rfl hQp rfl (fun w' hC' => (rv_fieldAddr ty_fd_28_1 (hS.ev rfl))) hM.fr fun a hS => ?_
       refine tkB hS 1 3 (by as_aux_lemma => kernel_rfl) rfl rfl rfl hQp rfl (fun w' hC' => (rv_load_bx (hS.ev rfl) ty_ag_22 ((hB.fra hC').get 0 rfl) rfl)) hM.fr fun a hS => ?_
       refine tkB hS 2 7 (by as_aux_lemma => kernel_rfl) rfl rfl rfl hQp rfl (fun w' hC' => (rv_move (hS.ev rfl))) hM.fr fun a hS => ?_
       obtain ⟨x613, hx, hF⟩ := bind_some hF
       obtain ⟨hi0, hi1, hex613⟩ := idxL_some hx
       refine tkB hS 3 15 (by as_aux_lemma => kernel_rfl) rfl rfl rfl hQp rfl (fun w' hC' => (rv_indexAddr Try.underlying22 ty_el_3 (hS.ev rfl) (hS.ev rfl) (hM.get 1 rfl) hi0 (map_len hi1))) hM.fr fun a hS => ?_
       refine tkB hS 4 31 (by as_aux_lemma => kernel_rfl) rfl rfl rfl hQp rfl (fun w' hC' => (rv_load_el (hS.ev rfl) ty_ag_3 ((hB.fra hC').get 1 rfl) (mget hex613))) hM.fr fun a hS => ?_
       refine tkB hS 5 63 (by as_aux_lemma => kernel_rfl) rfl rfl rfl hQp rfl (fun w' hC' => (rv_move (hS.ev rfl))) hM.fr fun a hS => ?_
       obtain ⟨_, hx, hF⟩ := bind_some hF
       have hi0 := nnO_some hx
       refine tkB hS 6 127 (by as_aux_lemma => kernel_rfl) rfl rfl rfl hQp rfl (fun w' hC' => (rv_shr (hS.ev rfl) (hS.ev rfl) hi0)) hM.fr fun a hS => ?_
       refine tkB hS 7 255 (by as_aux_lemma => kernel_rfl) rfl rfl rfl hQp rfl (fun w' hC' => (rv_and (hS.ev rfl) (hS.ev rfl))) hM.fr fun a hS => ?_
       refine tkB hS 8 511 (by as_aux_lemma => kernel_rfl) rfl rfl rfl hQp rfl (fun w' hC' => (rv_eql (hS.ev rfl) (hS.ev rfl))) hM.fr fun a hS => ?_
       refine tkB hS 9 1023 (by as_aux_lemma => kernel_rfl) rfl rfl rfl hQp rfl (fun w' hC' => (rv_move (hS.ev rfl))) hM.fr fun a hS => ?_
       rcases ite_some hF with ⟨hc, hF⟩ | ⟨hc, hF⟩
       ·have hS := hS.setb (t := 66) rfl hc
        refine tkB hS 10 2047 (by as_aux_lemma => kernel_rfl) rfl rfl rfl hQp rfl (fun w' hC' => (rv_fieldAddr ty_fd_28_1 (hS.ev rfl))) hM.fr fun a hS => ?_
        refine tkB hS 11 4095 (by as_aux_lemma => kernel_rfl) rfl rfl rfl hQp rfl (fun w' hC' => (rv_load_bx (hS.ev rfl) ty_ag_22 ((hB.fra hC').get 0 rfl) rfl)) hM.fr fun a hS => ?_
        refine tkB hS 12 8191 (by as_aux_lemma => kernel_rfl) rfl rfl rfl hQp rfl (fun w' hC' => (rv_move (hS.ev rfl))) hM.fr fun a hS => ?_
        obtain ⟨x614, hx, hF⟩ := bind_some hF
        obtain ⟨hi0, hi1, hex614⟩ := idxL_some hx
        refine tkB hS 13 16383 (by as_aux_lemma => kernel_rfl) rfl rfl rfl hQp rfl (fun w' hC' => (rv_indexAddr Try.underlying22 ty_el_3 (hS.ev rfl) (hS.ev rfl) (hM.get 1 rfl) hi0 (map_len hi1))) hM.fr fun a hS => ?_
        refine tkB hS 14 32767 (by as_aux_lemma => kernel_rfl) rfl rfl rfl hQp rfl (fun w' hC' => (rv_load_el (hS.ev rfl) ty_ag_3 ((hB.fra hC').get 1 rfl) (mget hex614))) hM.fr fun a hS => ?_
        refine tkB hS 15 65535 (by as_aux_lemma => kernel_rfl) rfl rfl rfl hQp rfl (fun w' hC' => (rv_lss (hS.ev rfl) (hS.ev rfl))) hM.fr fun a hS => ?_
        refine tkB hS 16 131071 (by as_aux_lemma => kernel_rfl) rfl rfl rfl hQp rfl (fun w' hC' => (rv_move (hS.ev rfl))) hM.fr fun a hS => ?_
        rcases ite_some hF with ⟨hc, hF⟩ | ⟨hc, hF⟩
        ·have hS := hS.setb (t := 73) rfl hc
         refine skB hS [17, 18, 19, 20, 21, 22, 23, 24, 25] [74, 75, 76, 77, 78, 79, 80, 81, 82] 67108863 13 rfl (by as_aux_lemma => kernel_rfl) hQp hM.fr fun a hS => ?_
         refine tkB hS 26 134217727 (by as_aux_lemma => kernel_rfl) rfl rfl rfl hQp rfl (fun w' hC' => (rv_pick_t (hS.ev rfl) (hS.ev rfl))) hM.fr fun a hS => ?_
         refine tkB hS 27 268435455 (by as_aux_lemma => kernel_rfl) rfl rfl rfl hQp rfl (fun w' hC' => (rv_move (hS.ev rfl))) hM.fr fun a hS => ?_
         refine skB hS [28, 29, 30, 31, 32, 33, 34, 35, 36] [85, 86, 87, 88, 89, 90, 91, 92, 93] 137438953471 2 rfl (by as_aux_lemma => kernel_rfl) hQp hM.fr fun a hS => ?_
         refine tkB hS 37 274877906943 (by as_aux_lemma => kernel_rfl) rfl rfl rfl hQp rfl (fun w' hC' => (rv_pick_t (hS.ev rfl) (hS.ev rfl))) hM.fr fun a hS => ?_
         refine tkB hS 38 549755813887 (by as_aux_lemma => kernel_rfl) rfl rfl rfl hQp rfl (fun w' hC' => (rv_pick_t (hS.ev rfl) (hS.ev rfl))) hM.fr fun a hS => ?_
         refine an_done (by as_aux_lemma => kernel_rfl) ?_
         have hN := hM.pick [] (by decide) rfl
         have hM := Mem.callo0 hB hN rfl
         exact hJ7 true _ _ (hS.sub (sub_cons rfl (sub_cons rfl (sub_cons rfl (sub_cons rfl sub_nil))))) (hM.pick [0, 1] (by decide) rfl) hF
        ·have hS := hS.setb (t := 73) rfl hc
         refine tkB hS 17 262143 (by as_aux_lemma => kernel_rfl) rfl rfl rfl hQp rfl (fun w' hC' => (rv_fieldAddr ty_fd_28_1 (hS.ev rfl))) hM.fr fun a hS => ?_
         refine tkB hS 18 524287 (by as_aux_lemma => kernel_rfl) rfl rfl rfl hQp rfl (fun w' hC' => (rv_load_bx (hS.ev rfl) ty_ag_22 ((hB.fra hC').get 0 rfl) rfl)) hM.fr fun a hS => ?_
         refine tkB hS 19 1048575 (by as_aux_lemma => kernel_rfl) rfl rfl rfl hQp rfl (fun w' hC' => (rv_move (hS.ev rfl))) hM.fr fun a hS => ?_
         obtain ⟨x615, hx, hF⟩ := bind_some hF
         obtain ⟨hi0, hi1, hex615⟩ := idxL_some hx
         refine tkB hS 20 2097151 (by as_aux_lemma => kernel_rfl) rfl rfl rfl hQp rfl (fun w' hC' => (rv_indexAddr Try.underlying22 ty_el_3 (hS.ev rfl) (hS.ev rfl) (hM.get 1 rfl) hi0 (map_len hi1))) hM.fr fun a hS => ?_
         refine tkB hS 21 4194303 (by as_aux_lemma => kernel_rfl) rfl rfl rfl hQp rfl (fun w' hC' => (rv_load_el (hS.ev rfl) ty_ag_3 ((hB.fra hC').get 1 rfl) (mget hex615))) hM.fr fun a hS => ?_
         refine tkB hS 22 8388607 (by as_aux_lemma => kernel_rfl) rfl rfl rfl hQp rfl (fun w' hC' => (rv_fieldAddr ty_fd_28_0 (hS.ev rfl))) hM.fr fun a hS => ?_
         refine tkB hS 23 16777215 (by as_aux_lemma => kernel_rfl) rfl rfl rfl hQp rfl (fun w' hC' => (rv_load_bx (hS.ev rfl) ty_ag_3 ((hB.fra hC').get 0 rfl) rfl)) hM.fr fun a hS => ?_
         obtain ⟨_, hx, hF⟩ := bind_some hF
         have hi0 := nnO_some hx
         refine tkB hS 24 33554431 (by as_aux_lemma => kernel_rfl) rfl rfl rfl hQp rfl (fun w' hC' => (rv_shl (hS.ev rfl) (hS.ev rfl) hi0)) hM.fr fun a hS => ?_
         refine tkB hS 25 67108863 (by as_aux_lemma => kernel_rfl) rfl rfl rfl hQp rfl (fun w' hC' => (rv_geq (hS.ev rfl) (hS.ev rfl))) hM.fr fun a hS => ?_
         refine tkB hS 26 134217727 (by as_aux_lemma => kernel_rfl) rfl rfl rfl hQp rfl (fun w' hC' => (rv_pick_f (hS.ev rfl) (hS.ev rfl))) hM.fr fun a hS => ?_
         refine tkB hS 27 268435455 (by as_aux_lemma => kernel_rfl) rfl rfl rfl hQp rfl (fun w' hC' => (rv_move (hS.ev rfl))) hM.fr fun a hS => ?_
         rcases ite_some hF with ⟨hc, hF⟩ | ⟨hc, hF⟩
         ·have hS := hS.setb (t := 84) rfl hc
          refine skB hS [28, 29, 30, 31, 32, 33, 34, 35, 36] [85, 86, 87, 88, 89, 90, 91, 92, 93] 137438953471 2 rfl (by as_aux_lemma => kernel_rfl) hQp hM.fr fun a hS => ?_
          refine tkB hS 37 274877906943 (by as_aux_lemma => kernel_rfl) rfl rfl rfl hQp rfl (fun w' hC' => (rv_pick_t (hS.ev rfl) (hS.ev rfl))) hM.fr fun a hS => ?_
          refine tkB hS 38 549755813887 (by as_aux_lemma => kernel_rfl) rfl rfl rfl hQp rfl (fun w' hC' => (rv_pick_t (hS.ev rfl) (hS.ev rfl))) hM.fr fun a hS => ?_
          refine an_done (by as_aux_lemma => kernel_rfl) ?_
          have hN := hM.pick [] (by decide) rfl
          have hM := Mem.callo0 hB hN rfl
          exact hJ7 true _ _ (hS.sub (sub_cons rfl (sub_cons rfl (sub_cons rfl (sub_cons rfl sub_nil))))) (hM.pick [0, 1] (by decide) rfl) hF
         ·have hS := hS.setb (t := 84) rfl hc
          refine tkB hS 28 536870911 (by as_aux_lemma => kernel_rfl) rfl rfl rfl hQp rfl (fun w' hC' => (rv_fieldAddr ty_fd_28_1 (hS.ev rfl))) hM.fr fun a hS => ?_
          refine tkB hS 29 1073741823 (by as_aux_lemma => kernel_rfl) rfl rfl rfl hQp rfl (fun w' hC' => (rv_load_bx (hS.ev rfl) ty_ag_22 ((hB.fra hC').get 0 rfl) rfl)) hM.fr fun a hS => ?_
          refine tkB hS 30 2147483647 (by as_aux_lemma => kernel_rfl) rfl rfl rfl hQp rfl (fun w' hC' => (rv_move (hS.ev rfl))) hM.fr fun a hS => ?_
          obtain ⟨x616, hx, hF⟩ := bind_some hF
          obtain ⟨hi0, hi1, hex616⟩ := idxL_some hx
          refine tkB hS 31 4294967295 (by as_aux_lemma => kernel_rfl) rfl rfl rfl hQp rfl (fun w' hC' => (rv_indexAddr Try.underlying22 ty_el_3 (hS.ev rfl) (hS.ev rfl) (hM.get 1 rfl) hi0 (map_len hi1))) hM.fr fun a hS => ?_
          refine tkB hS 32 8589934591 (by as_aux_lemma => kernel_rfl) rfl rfl rfl hQp rfl (fun w' hC' => (rv_load_el (hS.ev rfl) ty_ag_3 ((hB.fra hC').get 1 rfl) (mget hex616))) hM.fr fun a hS => ?_
          refine tkB hS 33 17179869183 (by as_aux_lemma => kernel_rfl) rfl rfl rfl hQp rfl (fun w' hC' => (rv_move (hS.ev rfl))) hM.fr fun a hS => ?_
          obtain ⟨_, hx, hF⟩ := bind_some hF
          have hi0 := nnO_some hx
          refine tkB hS 34 34359738367 (by as_aux_lemma => kernel_rfl) rfl rfl rfl hQp rfl (fun w' hC' => (rv_shr (hS.ev rfl) (hS.ev rfl) hi0)) hM.fr fun a hS => ?_
          refine tkB hS 35 68719476735 (by as_aux_lemma => kernel_rfl) rfl rfl rfl hQp rfl (fun w' hC' => (rv_and (hS.ev rfl) (hS.ev rfl))) hM.fr fun a hS => ?_
          refine tkB hS 36 137438953471 (by as_aux_lemma => kernel_rfl) rfl rfl rfl hQp rfl (fun w' hC' => (rv_eql (hS.ev rfl) (hS.ev rfl))) hM.fr fun a hS => ?_
          refine tkB hS 37 274877906943 (by as_aux_lemma => kernel_rfl) rfl rfl rfl hQp rfl (fun w' hC' => (rv_pick_f (hS.ev rfl) (hS.ev rfl))) hM.fr fun a hS => ?_
          refine tkB hS 38 549755813887 (by as_aux_lemma => kernel_rfl) rfl rfl rfl hQp rfl (fun w' hC' => (rv_pick_t (hS.ev rfl) (hS.ev rfl))) hM.fr fun a hS => ?_
          refine an_done (by as_aux_lemma => kernel_rfl) ?_
          have hN := hM.pick [] (by decide) rfl
          have hM := Mem.callo0 hB hN rfl
          exact hJ7 ((bAnd (shR x616 x319) 1) == 0) _ _ (hS.sub (sub_cons rfl (sub_cons rfl (sub_cons rfl (sub_cons rfl sub_nil))))) (hM.pick [0, 1] (by decide) rfl) hF
       ·have hS := hS.setb (t := 66) rfl hc
        refine skB hS [10, 11, 12, 13, 14, 15, 16, 17, 18, 19, 20, 21, 22, 23, 24, 25, 26, 27, 28, 29, 30, 31, 32, 33, 34, 35, 36, 37] [67, 68, 69, 70, 71, 72, 73, 74, 75, 76, 77, 78, 79, 80, 81, 82, 83, 84, 85, 86, 87, 88, 89, 90, 91, 92, 93, 94] 274877906943 1 rfl (by as_aux_lemma => kernel_rfl) hQp hM.fr fun a hS => ?_
        refine tkB hS 38 549755813887 (by as_aux_lemma => kernel_rfl) rfl rfl rfl hQp rfl (fun w' hC' => (rv_pick_f (hS.ev rfl) (hS.ev rfl))) hM.fr fun a hS => ?_
        refine an_done (by as_aux_lemma => kernel_rfl) ?_
        have hN := hM.pick [] (by decide) rfl
        have hM := Mem.callo0 hB hN rfl
        exact hJ7 false _ _ (hS.sub (sub_cons rfl (sub_cons rfl (sub_cons rfl (sub_cons rfl sub_nil))))) (hM.pick [0, 1] (by decide) rfl) hF
      ·refine cond_f hS rfl hc ?_
       refine wp_exit ?_
       cases hF
       exact hJ4 _ _ (hS.sub (sub_cons rfl (sub_cons rfl sub_nil))) (hM.pick [0, 1] (by decide) rfl) (by have e := hX6 _ rfl; subst e; exact hF6)
    refine an_startB 28 Nob ty_mixed (by kernel_rfl) fun w hf => ?_
    have hM := hM.fra hf
    have hB := hM
    have hM := hB.reg0
    refine tkB hS 0 1 (by as_aux_lemma => kernel_rfl) rfl rfl rfl hQp rfl (fun w' hC' => (rv_fieldAddr ty_fd_28_1 (hS.ev rfl))) hM.fr fun a hS => ?_
    refine tkB hS 1 3 (by as_aux_lemma => kernel_rfl) rfl rfl rfl hQp rfl (fun w' hC' => (rv_load_bx (hS.ev rfl) ty_ag_22 ((hB.fra hC').get 0 rfl) rfl)) hM.fr fun a hS => ?_
    refine tkB hS 2 7 (by as_aux_lemma => kernel_rfl) rfl rfl rfl hQp rfl (fun w' hC' => (rv_move (hS.ev rfl))) hM.fr fun a hS => ?_
    obtain ⟨x617, hx, hF⟩ := bind_some hF
    obtain ⟨hi0, hi1, hex617⟩ := idxL_some hx
    refine tkB hS 3 15 (by as_aux_lemma => kernel_rfl) rfl rfl rfl hQp rfl (fun w' hC' => (rv_indexAddr Try.underlying22 ty_el_3 (hS.ev rfl) (hS.ev rfl) (hM.get 1 rfl) hi0 (map_len hi1))) hM.fr fun a hS => ?_
    refine tkB hS 4 31 (by as_aux_lemma => kernel_rfl) rfl rfl rfl hQp rfl (fun w' hC' => (rv_load_el (hS.ev rfl) ty_ag_3 ((hB.fra hC').get 1 rfl) (mget hex617))) hM.fr fun a hS => ?_
    refine tkB hS 5 63 (by as_aux_lemma => kernel_rfl) rfl rfl rfl hQp rfl (fun w' hC' => (rv_lss (hS.ev rfl) (hS.ev rfl))) hM.fr fun a hS => ?_
    refine tkB hS 6 127 (by as_aux_lemma => kernel_rfl) rfl rfl rfl hQp rfl (fun w' hC' => (rv_move (hS.ev rfl))) hM.fr fun a hS => ?_
    rcases ite_some hF with ⟨hc, hF⟩ | ⟨hc, hF⟩
    ·have hS := hS.setb (t := 29) rfl hc
     refine skB hS [7, 8, 9, 10, 11, 12, 13, 14, 15] [30, 31, 32, 33, 34, 35, 36, 37, 38] 65535 12 rfl (by as_aux_lemma => kernel_rfl) hQp hM.fr fun a hS => ?_
     refine tkB hS 16 131071 (by as_aux_lemma => kernel_rfl) rfl rfl rfl hQp rfl (fun w' hC' => (rv_pick_t (hS.ev rfl) (hS.ev rfl))) hM.fr fun a hS => ?_
     refine tkB hS 17 262143 (by as_aux_lemma => kernel_rfl) rfl rfl rfl hQp rfl (fun w' hC' => (rv_move (hS.ev rfl))) hM.fr fun a hS => ?_
     refine skB hS [18, 19, 20, 21, 22, 23, 24, 25, 26] [41, 42, 43, 44, 45, 46, 47, 48, 49] 134217727 1 rfl (by as_aux_lemma => kernel_rfl) hQp hM.fr fun a hS => ?_
     refine tkB hS 27 268435455 (by as_aux_lemma => kernel_rfl) rfl rfl rfl hQp rfl (fun w' hC' => (rv_pick_t (hS.ev rfl) (hS.ev rfl))) hM.fr fun a hS => ?_
     refine an_done (by as_aux_lemma => kernel_rfl) ?_
     have hN := hM.pick [] (by decide) rfl
     have hM := Mem.callo0 hB hN rfl
     exact hJ5 true _ _ (hS.sub (sub_cons rfl (sub_cons rfl (sub_cons rfl sub_nil)))) (hM.pick [0, 1] (by decide) rfl) hF
    ·have hS := hS.setb (t := 29) rfl hc
     refine tkB hS 7 255 (by as_aux_lemma => kernel_rfl) rfl rfl rfl hQp rfl (fun w' hC' => (rv_fieldAddr ty_fd_28_1 (hS.ev rfl))) hM.fr fun a hS => ?_
     refine tkB hS 8 511 (by as_aux_lemma => kernel_rfl) rfl rfl rfl hQp rfl (fun w' hC' => (rv_load_bx (hS.ev rfl) ty_ag_22 ((hB.fra hC').get 0 rfl) rfl)) hM.fr fun a hS => ?_
     refine tkB hS 9 1023 (by as_aux_lemma => kernel_rfl) rfl rfl rfl hQp rfl (fun w' hC' => (rv_move (hS.ev rfl))) hM.fr fun a hS => ?_
     obtain ⟨x618, hx, hF⟩ := bind_some hF
     obtain ⟨hi0, hi1, hex618⟩ := idxL_some hx
     refine tkB hS 10 2047 (by as_aux_lemma => kernel_rfl) rfl rfl rfl hQp rfl (fun w' hC' => (rv_indexAddr Try.underlying22 ty_el_3 (hS.ev rfl) (hS.ev rfl) (hM.get 1 rfl) hi0 (map_len hi1))) hM.fr fun a hS => ?_
     refine tkB hS 11 4095 (by as_aux_lemma => kernel_rfl) rfl rfl rfl hQp rfl (fun w' hC' => (rv_load_el (hS.ev rfl) ty_ag_3 ((hB.fra hC').get 1 rfl) (mget hex618))) hM.fr fun a hS => ?_
     refine tkB hS 12 8191 (by as_aux_lemma => kernel_rfl) rfl rfl rfl hQp rfl (fun w' hC' => (rv_fieldAddr ty_fd_28_0 (hS.ev rfl))) hM.fr fun a hS => ?_
     refine tkB hS 13 16383 (by as_aux_lemma => kernel_rfl) rfl rfl rfl hQp rfl (fun w' hC' => (rv_load_bx (hS.ev rfl) ty_ag_3 ((hB.fra hC').get 0 rfl) rfl)) hM.fr fun a hS => ?_
     obtain ⟨_, hx, hF⟩ := bind_some hF
     have hi0 := nnO_some hx
     refine tkB hS 14 32767 (by as_aux_lemma => kernel_rfl) rfl rfl rfl hQp rfl (fun w' hC' => (rv_shl (hS.ev rfl) (hS.ev rfl) hi0)) hM.fr fun a hS => ?_
     refine tkB hS 15 65535 (by as_aux_lemma => kernel_rfl) rfl rfl rfl hQp rfl (fun w' hC' => (rv_geq (hS.ev rfl) (hS.ev rfl))) hM.fr fun a hS => ?_
     refine tkB hS 16 131071 (by as_aux_lemma => kernel_rfl) rfl rfl rfl hQp rfl (fun w' hC' => (rv_pick_f (hS.ev rfl) (hS.ev rfl))) hM.fr fun a hS => ?_
     refine tkB hS 17 262143 (by as_aux_lemma => kernel_rfl) rfl rfl rfl hQp rfl (fun w' hC' => (rv_move (hS.ev rfl))) hM.fr fun a hS => ?_
     rcases ite_some hF with ⟨hc, hF⟩ | ⟨hc, hF⟩
     ·have hS := hS.setb (t := 40) rfl hc
      refine skB hS [18, 19, 20, 21, 22, 23, 24, 25, 26] [41, 42, 43, 44, 45, 46, 47, 48, 49] 134217727 1 rfl (by as_aux_lemma => kernel_rfl) hQp hM.fr fun a hS => ?_
      refine tkB hS 27 268435455 (by as_aux_lemma => kernel_rfl) rfl rfl rfl hQp rfl (fun w' hC' => (rv_pick_t (hS.ev rfl) (hS.ev rfl))) hM.fr fun a hS => ?_
      refine an_done (by as_aux_lemma => kernel_rfl) ?_
      have hN := hM.pick [] (by decide) rfl
      have hM := Mem.callo0 hB hN rfl
      exact hJ5 true _ _ (hS.sub (sub_cons rfl (sub_cons rfl (sub_cons rfl sub_nil)))) (hM.pick [0, 1] (by decide) rfl) hF
     ·have hS := hS.setb (t := 40) rfl hc
      refine tkB hS 18 524287 (by as_aux_lemma => kernel_rfl) rfl rfl rfl hQp rfl (fun w' hC' => (rv_fieldAddr ty_fd_28_1 (hS.ev rfl))) hM.fr fun a hS => ?_
      refine tkB hS 19 1048575 (by as_aux_lemma => kernel_rfl) rfl rfl rfl hQp rfl (fun w' hC' => (rv_load_bx (hS.ev rfl) ty_ag_22 ((hB.fra hC').get 0 rfl) rfl)) hM.fr fun a hS => ?_
      refine tkB hS 20 2097151 (by as_aux_lemma => kernel_rfl) rfl rfl rfl hQp rfl (fun w' hC' => (rv_move (hS.ev rfl))) hM.fr fun a hS => ?_
      obtain ⟨x619, hx, hF⟩ := bind_some hF
      obtain ⟨hi0, hi1, hex619⟩ := idxL_some hx
      refine tkB hS 21 4194303 (by as_aux_lemma => kernel_rfl) rfl rfl rfl hQp rfl (fun w' hC' => (rv_indexAddr Try.underlying22 ty_el_3 (hS.ev rfl) (hS.ev rfl) (hM.get 1 rfl) hi0 (map_len hi1))) hM.fr fun a hS => ?_
      refine tkB hS 22 8388607 (by as_aux_lemma => kernel_rfl) rfl rfl rfl hQp rfl (fun w' hC' => (rv_load_el (hS.ev rfl) ty_ag_3 ((hB.fra hC').get 1 rfl) (mget hex619))) hM.fr fun a hS => ?_
      refine tkB hS 23 16777215 (by as_aux_lemma => kernel_rfl) rfl rfl rfl hQp rfl (fun w' hC' => (rv_move (hS.ev rfl))) hM.fr fun a hS => ?_
      obtain ⟨_, hx, hF⟩ := bind_some hF
      have hi0 := nnO_some hx
      refine tkB hS 24 33554431 (by as_aux_lemma => kernel_rfl) rfl rfl rfl hQp rfl (fun w' hC' => (rv_shr (hS.ev rfl) (hS.ev rfl) hi0)) hM.fr fun a hS => ?_
      refine tkB hS 25 67108863 (by as_aux_lemma => kernel_rfl) rfl rfl rfl hQp rfl (fun w' hC' => (rv_and (hS.ev rfl) (hS.ev rfl))) hM.fr fun a hS => ?_
      refine tkB hS 26 134217727 (by as_aux_lemma => kernel_rfl) rfl rfl rfl hQp rfl (fun w' hC' => (rv_eql (hS.ev rfl) (hS.ev rfl))) hM.fr fun a hS => ?_
      refine tkB hS 27 268435455 (by as_aux_lemma => kernel_rfl) rfl rfl rfl hQp rfl (fun w' hC' => (rv_pick_f (hS.ev rfl) (hS.ev rfl))) hM.fr fun a hS => ?_
      refine an_done (by as_aux_lemma => kernel_rfl) ?_
      have hN := hM.pick [] (by decide) rfl
      have hM := Mem.callo0 hB hN rfl
      exact hJ5 ((bAnd (shR x619 x319) 1) == 1) _ _ (hS.sub (sub_cons rfl (sub_cons rfl (sub_cons rfl sub_nil)))) (hM.pick [0, 1] (by decide) rfl) hF
   ·refine cond_f hS rfl hc ?_
    refine wp_exit ?_
    cases hF
    exact hJ2 _ _ (hS.sub sub_nil) (hM.pick [] (by decide) rfl) (by have e := hX3 _ rfl; subst e; exact hF3)
 refine wp_region_lit ?_
 refine st_val hS rfl rfl (by decide) (rv_fieldAddr ty_fd_28_0 (hS.ev rfl)) fun a hS => ?_
 refine st_val hS rfl rfl (by decide) (rv_load_bx (hS.ev rfl) ty_ag_3 (hM.get 0 rfl) rfl) fun a hS => ?_
 obtain ⟨r620, hr, hF⟩ := bind_some hF
 refine st_wp hS rfl (wp_call hS rfl rfl (by decide) fn_ok_74 rfl (c_spec_l1In F p0_g_Size 1 7 hr _) fun v w a hK hS => ?_)
 obtain ⟨rfl, hN⟩ := hK
 have hM := hM.fra hN.fr
 refine st_val hS rfl rfl (by decide) (rv_not (hS.ev rfl)) fun a hS => ?_
 refine st_val hS rfl rfl (by decide) (rv_move (hS.ev rfl)) fun a hS => ?_
 rcases ite_some hF with ⟨hc, hF⟩ | ⟨hc, hF⟩
 ·have hS := hS.setb (t := 9) rfl hc
  refine st_skip hS rfl rfl (by decide) fun a hS => ?_
  refine st_skip hS rfl rfl (by decide) fun a hS => ?_
  refine st_skip hS rfl rfl (by decide) fun a hS => ?_
  refine st_skip hS rfl rfl (by decide) fun a hS => ?_
  refine st_skip hS rfl rfl (by decide) fun a hS => ?_
  refine st_skip hS rfl rfl (by decide) fun a hS => ?_
  refine st_val hS rfl rfl (by decide) (rv_pick_t (hS.ev rfl) (hS.ev rfl)) fun a hS => ?_
  refine wpList_nil ?_
  exact hJ1 true _ _ (hS.sub (sub_cons rfl (sub_cons rfl sub_nil))) (hM.pick [0, 1] (by decide) rfl) hF
 ·have hS := hS.setb (t := 9) rfl hc
  refine st_val hS rfl rfl (by decide) (rv_fieldAddr ty_fd_28_1 (hS.ev rfl)) fun a hS => ?_
  refine st_val hS rfl rfl (by decide) (rv_load_bx (hS.ev rfl) ty_ag_22 (hM.get 0 rfl) rfl) fun a hS => ?_
  refine st_val hS rfl rfl (by decide) (rv_len_rowM Try.underlying22 (hS.ev rfl) (hM.get 1 rfl)) fun a hS => ?_
  refine st_val hS rfl rfl (by decide) (rv_fieldAddr ty_fd_28_0 (hS.ev rfl)) fun a hS => ?_
  refine st_val hS rfl rfl (by decide) (rv_load_bx (hS.ev rfl) ty_ag_3 (hM.get 0 rfl) rfl) fun a hS => ?_
  refine st_val hS rfl rfl (by decide) (rv_neq (hS.ev rfl) (hS.ev rfl)) fun a hS => ?_
  refine st_val hS rfl rfl (by decide) (rv_pick_f (hS.ev rfl) (hS.ev rfl)) fun a hS => ?_
  refine wpList_nil ?_
  exact hJ1 ((p0_g_Rows.length : Int) != p0_g_Size) _ _ (hS.sub (sub_cons rfl (sub_cons rfl sub_nil))) (hM.pick [0, 1] (by decide) rfl) hF


theorem c_spec_IsSet (F : Nat) (p0_g_Size : Int) (p0_g_Rows : List Int) (p1_set : Int) (p0_g_Rowsv : Value) {r : Bool} (hF : S_spec_IsSet F p0_g_Size p0_g_Rows p1_set = some r) (w0 : World) (h0 : RdRow w0 p0_g_Rowsv (List.map (int i64) p0_g_Rows)) :
    Calls Try.prog 124 [(Value.agg #[(int i64 p0_g_Size), p0_g_Rowsv]), (int i64 p1_set)].toArray w0 (retPost fun v w' => v = (Value.bool r) ∧ Mem Nob w0 w' []) := by
 have hM : Mem Nob w0 w0 [(false, rd p0_g_Rowsv (List.map (int i64) p0_g_Rows))] := (Mem.rcons (Mem.nil w0) h0 (by simp))
 refine enter2 Try.func124 rfl rfl rfl fun Q a hQr hQn hQp hS => ?_
 have hS : Sl 18 [(0, (Value.agg #[(int i64 p0_g_Size), p0_g_Rowsv])), (1, (int i64 p1_set))] a := hS
 unfold S_spec_IsSet at hF
 refine wp_seq_k fun K1 hK1 => ?_
 refine wp_region_lit ?_
 obtain ⟨b3, w, hr, hM⟩ := hM.boxE (ρ := a.eval) (dst := some 2) (ty := _) (pos := _) (af := _) (gd := _) (x := .tmp 0) (T := 28) [(int i64 p0_g_Size), p0_g_Rowsv] (hS.ev rfl) rfl
 refine st_val hS rfl rfl (by decide) hr fun a hS => ?_
 refine st_val hS rfl rfl (by decide) (rv_assign (hS.ev rfl)) fun a hS => ?_
 refine wpList_nil ?_
 refine hK1 _ _ ?_
 refine wp_seq_k fun K4 hK4 => ?_
 have hJ1 : ∀ (p6 : Bool) (a : Act) (w : World), Sl 18 [(4, (Value.bool p6))] a → Mem Nob w0 w [] → S_spec_IsSet_j1 F p6 = some r → K4 a w := by
  intro p6 a w hS hM hF
  unfold S_spec_IsSet_j1 at hF
  refine hK4 _ _ ?_
  refine wp_ret ?_
  cases hF
  exact hQr _ _ (r_1 hS rfl rfl ⟨rfl, hM.pick [] (by decide) rfl⟩)
 refine wp_region_lit ?_
 refine st_val hS rfl rfl (by decide) (rv_load_agg (hS.ev rfl) ty_ag_28 (hM.get 0 rfl) ty_sz_28) fun a hS => ?_
 obtain ⟨r7, hr, hF⟩ := bind_some hF
 refine st_wp hS rfl (wp_call hS rfl rfl (by decide) fn_ok_73 rfl (c_spec_IsGraph F p0_g_Size p0_g_Rows p0_g_Rowsv hr _ (hM.get 1 rfl)) fun v w a hK hS => ?_)
 obtain ⟨rfl, hN⟩ := hK
 have hM := hM.fra hN.fr
 refine st_val hS rfl rfl (by decide) (rv_move (hS.ev rfl)) fun a hS => ?_
 rcases ite_some hF with ⟨hc, hF⟩ | ⟨hc, hF⟩
 ·have hS := hS.setb (t := 7) rfl hc
  refine st_val hS rfl rfl (by decide) (rv_move (hS.ev rfl)) fun a hS => ?_
  refine st_val hS rfl rfl (by decide) (rv_geq (hS.ev rfl) (hS.ev rfl)) fun a hS => ?_
  refine st_val hS rfl rfl (by decide) (rv_pick_t (hS.ev rfl) (hS.ev rfl)) fun a hS => ?_
  refine st_val hS rfl rfl (by decide) (rv_move (hS.ev rfl)) fun a hS => ?_
  rcases ite_some hF with ⟨hc, hF⟩ | ⟨hc, hF⟩
  ·have hS := hS.setb (t := 11) rfl hc
   refine st_val hS rfl rfl (by decide) (rv_move (hS.ev rfl)) fun a hS => ?_
   refine st_val hS rfl rfl (by decide) (rv_fieldAddr ty_fd_28_0 (hS.ev rfl)) fun a hS => ?_
   refine st_val hS rfl rfl (by decide) (rv_load_bx (hS.ev rfl) ty_ag_3 (hM.get 0 rfl) rfl) fun a hS => ?_
   obtain ⟨_, hx, hF⟩ := bind_some hF
   have hi0 := nnO_some hx
   refine st_val hS rfl rfl (by decide) (rv_shl (hS.ev rfl) (hS.ev rfl) hi0) fun a hS => ?_
   refine st_val hS rfl rfl (by decide) (rv_lss (hS.ev rfl) (hS.ev rfl)) fun a hS => ?_
   refine st_val hS rfl rfl (by decide) (rv_pick_t (hS.ev rfl) (hS.ev rfl)) fun a hS => ?_
   refine st_val hS rfl rfl (by decide) (rv_assign (hS.ev rfl)) fun a hS => ?_
   refine wpList_nil ?_
   exact hJ1 (decide (p1_set < (shL 1 p0_g_Size))) _ _ (hS.sub (sub_cons rfl sub_nil)) (hM.pick [] (by decide) rfl) hF
  ·have hS := hS.setb (t := 11) rfl hc
   refine st_skip hS rfl rfl (by decide) fun a hS => ?_
   refine st_skip hS rfl rfl (by decide) fun a hS => ?_
   refine st_skip hS rfl rfl (by decide) fun a hS => ?_
   refine st_skip hS rfl rfl (by decide) fun a hS => ?_
   refine st_skip hS rfl rfl (by decide) fun a hS => ?_
   refine st_val hS rfl rfl (by decide) (rv_pick_f (hS.ev rfl) (hS.ev rfl)) fun a hS => ?_
   refine st_val hS rfl rfl (by decide) (rv_assign (hS.ev rfl)) fun a hS => ?_
   refine wpList_nil ?_
   exact hJ1 false _ _ (hS.sub (sub_cons rfl sub_nil)) (hM.pick [] (by decide) rfl) hF
 ·have hS := hS.setb (t := 7) rfl hc
  refine st_skip hS rfl rfl (by decide) fun a hS => ?_
  refine st_skip hS rfl rfl (by decide) fun a hS => ?_
  refine st_val hS rfl rfl (by decide) (rv_pick_f (hS.ev rfl) (hS.ev rfl)) fun a hS => ?_
  refine st_val hS rfl rfl (by decide) (rv_move (hS.ev rfl)) fun a hS => ?_
  refine st_skip hS rfl rfl (by decide) fun a hS => ?_
  refine st_skip hS rfl rfl (by decide) fun a hS => ?_
  refine st_skip hS rfl rfl (by decide) fun a hS => ?_
  refine st_skip hS rfl rfl (by decide) fun a hS => ?_
  refine st_skip hS rfl rfl (by decide) fun a hS => ?_
  refine st_val hS rfl rfl (by decide) (rv_pick_f (hS.ev rfl) (hS.ev rfl)) fun a hS => ?_
  refine st_val hS rfl rfl (by decide) (rv_assign (hS.ev rfl)) fun a hS => ?_
  refine wpList_nil ?_
  exact hJ1 false _ _ (hS.sub (sub_cons rfl sub_nil)) (hM.pick [] (by decide) rfl) hF


theorem c_spec_l4Distinct (F : Nat) (p0_g_Size : Int) (p0_g_Rows : List Int) (p1_l : List Int) (p0_g_Rowsv : Value) (p1_lv : Value) {r : Bool} (hF : S_spec_l4Distinct F p0_g_Size p0_g_Rows p1_l = some r) (w0 : World) (h0 : RdRow w0 p0_g_Rowsv (List.map (int i64) p0_g_Rows)) (h1 : RdRow w0 p1_lv (List.map (int i64) p1_l)) :
    Calls Try.prog 93 [(Value.agg #[(int i64 p0_g_Size), p0_g_Rowsv]), p1_lv].toArray w0 (retPost fun v w' => v = (Value.bool r) ∧ Mem Nob w0 w' []) := by
 have hM : Mem Nob w0 w0 [(false, rd p0_g_Rowsv (List.map (int i64) p0_g_Rows)), (false, rd p1_lv (List.map (int i64) p1_l))] := (Mem.rcons (Mem.rcons (Mem.nil w0) h1 (by simp)) h0 (by simp))
 refine enter2 Try.func93 rfl rfl rfl fun Q a hQr hQn hQp hS => ?_
 have hS : Sl 22 [(0, (Value.agg #[(int i64 p0_g_Size), p0_g_Rowsv])), (1, p1_lv)] a := hS
 unfold S_spec_l4Distinct at hF
 refine wp_seq_k fun K1 hK1 => ?_
 refine wp_region_lit ?_
 obtain ⟨b3, w, hr, hM⟩ := hM.boxE (ρ := a.eval) (dst := some 2) (ty := _) (pos := _) (af := _) (gd := _) (x := .tmp 0) (T := 28) [(int i64 p0_g_Size), p0_g_Rowsv] (hS.ev rfl) rfl
 refine st_val hS rfl rfl (by decide) hr fun a hS => ?_
 refine st_val hS rfl rfl (by decide) (rv_assign (hS.ev rfl)) fun a hS => ?_
 refine wpList_nil ?_
 refine hK1 _ _ ?_
 refine wp_seq_k fun K4 hK4 => ?_
 refine wp_region_lit ?_
 refine st_val hS rfl rfl (by decide) (rv_move (hS.ev rfl)) fun a hS => ?_
 obtain ⟨r6, hr, hF⟩ := bind_some hF
 refine st_wp hS rfl (wp_call hS rfl rfl (by decide) fn_ok_123 rfl (c_spec_SetOf F p1_l p1_lv hr _ (hM.get 2 rfl)) fun v w a hK hS => ?_)
 obtain ⟨rfl, hN⟩ := hK
 have hM := hM.fra hN.fr
 refine st_val hS rfl rfl (by decide) (rv_move (hS.ev rfl)) fun a hS => ?_
 refine st_val hS rfl rfl (by decide) (rv_extract (hS.ev rfl) rfl) fun a hS => ?_
 refine st_val hS rfl rfl (by decide) (rv_extract (hS.ev rfl) rfl) fun a hS => ?_
 refine st_val hS rfl rfl (by decide) (rv_assign (hS.ev rfl)) fun a hS => ?_
 refine st_val hS rfl rfl (by decide) (rv_assign (hS.ev rfl)) fun a hS => ?_
 refine wpList_nil ?_
 refine hK4 _ _ ?_
 have hS : Sl 22 [(2, (fdp b3 0)), (5, (int i64 r6.1)), (6, (Value.bool r6.2))] a := hS.sub (sub_cons rfl (sub_cons rfl (sub_cons rfl sub_nil)))
 have hM := hM.pick [0, 1] (by decide) rfl
 refine wp_seq_k fun K7 hK7 => ?_
 have hJ1 : ∀ (p10 : Bool) (a : Act) (w : World), Sl 22 [(4, (Value.bool p10))] a → Mem Nob w0 w [] → S_spec_l4Distinct_j1 F p10 = some r → K7 a w := by
  intro p10 a w hS hM hF
  unfold S_spec_l4Distinct_j1 at hF
  refine hK7 _ _ ?_
  refine wp_ret ?_
  cases hF
  exact hQr _ _ (r_1 hS rfl rfl ⟨rfl, hM.pick [] (by decide) rfl⟩)
 refine wp_region_lit ?_
 refine st_val hS rfl rfl (by decide) (rv_load_agg (hS.ev rfl) ty_ag_28 (hM.get 0 rfl) ty_sz_28) fun a hS => ?_
 obtain ⟨r11, hr, hF⟩ := bind_some hF
 refine st_wp hS rfl (wp_call hS rfl rfl (by decide) fn_ok_73 rfl (c_spec_IsGraph F p0_g_Size p0_g_Rows p0_g_Rowsv hr _ (hM.get 1 rfl)) fun v w a hK hS => ?_)
 obtain ⟨rfl, hN⟩ := hK
 have hM := hM.fra hN.fr
 refine st_val hS rfl rfl (by decide) (rv_move (hS.ev rfl)) fun a hS => ?_
 rcases ite_some hF with ⟨hc, hF⟩ | ⟨hc, hF⟩
 ·have hS := hS.setb (t := 14) rfl hc
  refine st_val hS rfl rfl (by decide) (rv_move (hS.ev rfl)) fun a hS => ?_
  refine st_val hS rfl rfl (by decide) (rv_pick_t (hS.ev rfl) (hS.ev rfl)) fun a hS => ?_
  refine st_val hS rfl rfl (by decide) (rv_move (hS.ev rfl)) fun a hS => ?_
  rcases ite_some hF with ⟨hc, hF⟩ | ⟨hc, hF⟩
  ·have hS := hS.setb (t := 17) rfl hc
   refine st_val hS rfl rfl (by decide) (rv_load_agg (hS.ev rfl) ty_ag_28 (hM.get 0 rfl) ty_sz_28) fun a hS => ?_
   refine st_val hS rfl rfl (by decide) (rv_move (hS.ev rfl)) fun a hS => ?_
   obtain ⟨r12, hr, hF⟩ := bind_some hF
   refine st_wp hS rfl (wp_call hS rfl rfl (by decide) fn_ok_124 rfl (c_spec_IsSet F p0_g_Size p0_g_Rows r6.1 p0_g_Rowsv hr _ (hM.get 1 rfl)) fun v w a hK hS => ?_)
   obtain ⟨rfl, hN⟩ := hK
   have hM := hM.fra hN.fr
   refine st_val hS rfl rfl (by decide) (rv_pick_t (hS.ev rfl) (hS.ev rfl)) fun a hS => ?_
   refine st_val hS rfl rfl (by decide) (rv_assign (hS.ev rfl)) fun a hS => ?_
   refine wpList_nil ?_
   exact hJ1 r12 _ _ (hS.sub (sub_cons rfl sub_nil)) (hM.pick [] (by decide) rfl) hF
  ·have hS := hS.setb (t := 17) rfl hc
   refine st_skip hS rfl rfl (by decide) fun a hS => ?_
   refine st_skip hS rfl rfl (by decide) fun a hS => ?_
   refine st_skip hS rfl rfl (by decide) fun a hS => ?_
   refine st_val hS rfl rfl (by decide) (rv_pick_f (hS.ev rfl) (hS.ev rfl)) fun a hS => ?_
   refine st_val hS rfl rfl (by decide) (rv_assign (hS.ev rfl)) fun a hS => ?_
   refine wpList_nil ?_
   exact hJ1 false _ _ (hS.sub (sub_cons rfl sub_nil)) (hM.pick [] (by decide) rfl) hF
 ·have hS := hS.setb (t := 14) rfl hc
  refine st_skip hS rfl rfl (by decide) fun a hS => ?_
  refine st_val hS rfl rfl (by decide) (rv_pick_f (hS.ev rfl) (hS.ev rfl)) fun a hS => ?_
  refine st_val hS rfl rfl (by decide) (rv_move (hS.ev rfl)) fun a hS => ?_
  refine st_skip hS rfl rfl (by decide) fun a hS => ?_
  refine st_skip hS rfl rfl (by decide) fun a hS => ?_
  refine st_skip hS rfl rfl (by decide) fun a hS => ?_
  refine st_val hS rfl rfl (by decide) (rv_pick_f (hS.ev rfl) (hS.ev rfl)) fun a hS => ?_
  refine st_val hS rfl rfl (by decide) (rv_assign (hS.ev rfl)) fun a hS => ?_
  refine wpList_nil ?_
  exact hJ1 false _ _ (hS.sub (sub_cons rfl sub_nil)) (hM.pick [] (by decide) rfl) hF


theorem c_spec_l2Edge (F : Nat) (p0_g_Size : Int) (p0_g_Rows : List Int) (p1_v : Int) (p2_w : Int) (p0_g_Rowsv : Value) {r : Bool} (hF : S_spec_l2Edge F p0_g_Size p0_g_Rows p1_v p2_w = some r) (w0 : World) (h0 : RdRow w0 p0_g_Rowsv (List.map (int i64) p0_g_Rows)) :
    Calls Try.prog 94 [(Value.agg #[(int i64 p0_g_Size), p0_g_Rowsv]), (int i64 p1_v), (int i64 p2_w)].toArray w0 (retPost fun v w' => v = (Value.bool r) ∧ Mem Nob w0 w' []) := by
 have hM : Mem Nob w0 w0 [(false, rd p0_g_Rowsv (List.map (int i64) p0_g_Rows))] := (Mem.rcons (Mem.nil w0) h0 (by simp))
 refine enter2 Try.func94 rfl rfl rfl fun Q a hQr hQn hQp hS => ?_
 have hS : Sl 16 [(0, (Value.agg #[(int i64 p0_g_Size), p0_g_Rowsv])), (1, (int i64 p1_v)), (2, (int i64 p2_w))] a := hS
 unfold S_spec_l2Edge at hF
 refine wp_seq_k fun K1 hK1 => ?_
 refine wp_region_lit ?_
 obtain ⟨b3, w, hr, hM⟩ := hM.boxE (ρ := a.eval) (dst := some 3) (ty := _) (pos := _) (af := _) (gd := _) (x := .tmp 0) (T := 28) [(int i64 p0_g_Size), p0_g_Rowsv] (hS.ev rfl) rfl
 refine st_val hS rfl rfl (by decide) hr fun a hS => ?_
 refine st_val hS rfl rfl (by decide) (rv_assign (hS.ev rfl)) fun a hS => ?_
 refine wpList_nil ?_
 refine hK1 _ _ ?_
 refine wp_seq_k fun K4 hK4 => ?_
 refine wp_region_lit ?_
 refine st_val hS rfl rfl (by decide) (rv_fieldAddr ty_fd_28_1 (hS.ev rfl)) fun a hS => ?_
 refine st_val hS rfl rfl (by decide) (rv_load_bx (hS.ev rfl) ty_ag_22 (hM.get 0 rfl) rfl) fun a hS => ?_
 refine st_val hS rfl rfl (by decide) (rv_move (hS.ev rfl)) fun a hS => ?_
 obtain ⟨x6, hx, hF⟩ := bind_some hF
 obtain ⟨hi0, hi1, hex6⟩ := idxL_some hx
 refine st_val hS rfl rfl (by decide) (rv_indexAddr Try.underlying22 ty_el_3 (hS.ev rfl) (hS.ev rfl) (hM.get 1 rfl) hi0 (map_len hi1)) fun a hS => ?_
 refine st_val hS rfl rfl (by decide) (rv_load_el (hS.ev rfl) ty_ag_3 (hM.get 1 rfl) (mget hex6)) fun a hS => ?_
 refine st_val hS rfl rfl (by decide) (rv_move (hS.ev rfl)) fun a hS => ?_
 obtain ⟨_, hx, hF⟩ := bind_some hF
 have hi0 := nnO_some hx
 refine st_val hS rfl rfl (by decide) (rv_shr (hS.ev rfl) (hS.ev rfl) hi0) fun a hS => ?_
 refine st_val hS rfl rfl (by decide) (rv_and (hS.ev rfl) (hS.ev rfl)) fun a hS => ?_
 refine st_val hS rfl rfl (by decide) (rv_eql (hS.ev rfl) (hS.ev rfl)) fun a hS => ?_
 refine st_val hS rfl rfl (by decide) (rv_assign (hS.ev rfl)) fun a hS => ?_
 refine wpList_nil ?_
 refine hK4 _ _ ?_
 have hS : Sl 16 [(6, (Value.bool ((bAnd (shR x6 p2_w) 1) == 1)))] a := hS.sub (sub_cons rfl sub_nil)
 have hM := hM.pick [] (by decide) rfl
 refine wp_ret ?_
 cases hF
 exact hQr _ _ (r_1 hS rfl rfl ⟨rfl, hM.pick [] (by decide) rfl⟩)


theorem c_spec_IsClaw (F : Nat) (p0_g_Size : Int) (p0_g_Rows : List Int) (p1_l : List Int) (p0_g_Rowsv : Value) (p1_lv : Value) {r : Bool} (hF : S_spec_IsClaw F p0_g_Size p0_g_Rows p1_l = some r) (w0 : World) (h0 : RdRow w0 p0_g_Rowsv (List.map (int i64) p0_g_Rows)) (h1 : RdRow w0 p1_lv (List.map (int i64) p1_l)) :
    Calls Try.prog 43 [(Value.agg #[(int i64 p0_g_Size), p0_g_Rowsv]), p1_lv].toArray w0 (retPost fun v w' => v = (Value.bool r) ∧ Mem Nob w0 w' []) := by
 have hM : Mem Nob w0 w0 [(false, rd p0_g_Rowsv (List.map (int i64) p0_g_Rows)), (false, rd p1_lv (List.map (int i64) p1_l))] := (Mem.rcons (Mem.rcons (Mem.nil w0) h1 (by simp)) h0 (by simp))
 refine enter2 Try.func43 rfl rfl rfl fun Q a hQr hQn hQp hS => ?_
 have hS : Sl 76 [(0, (Value.agg #[(int i64 p0_g_Size), p0_g_Rowsv])), (1, p1_lv)] a := hS
 unfold S_spec_IsClaw at hF
 refine wp_seq_k fun K1 hK1 => ?_
 refine wp_region_lit ?_
 obtain ⟨b3, w, hr, hM⟩ := hM.boxE (ρ := a.eval) (dst := some 2) (ty := _) (pos := _) (af := _) (gd := _) (x := .tmp 0) (T := 28) [(int i64 p0_g_Size), p0_g_Rowsv] (hS.ev rfl) rfl
 refine st_val hS rfl rfl (by decide) hr fun a hS => ?_
 refine st_val hS rfl rfl (by decide) (rv_assign (hS.ev rfl)) fun a hS => ?_
 refine wpList_nil ?_
 refine hK1 _ _ ?_
 refine wp_seq_k fun K4 hK4 => ?_
 have hJ1 : ∀ (p24 : Bool) (a : Act) (w : World), Sl 76 [(4, (Value.bool p24))] a → Mem Nob w0 w [] → S_spec_IsClaw_j1 F p24 = some r → K4 a w := by
  intro p24 a w hS hM hF
  unfold S_spec_IsClaw_j1 at hF
  refine hK4 _ _ ?_
  refine wp_ret ?_
  cases hF
  exact hQr _ _ (r_1 hS rfl rfl ⟨rfl, hM.pick [] (by decide) rfl⟩)
 refine an_startB 72 Nob ty_mixed (by kernel_rfl) fun w hf => ?_
 have hM := hM.fra hf
 have hB := hM
 have hM := hB.reg0
 refine tkB hS 0 1 (by as_aux_lemma => kernel_rfl) rfl rfl rfl hQp rfl (fun w' hC' => (rv_move (hS.ev rfl))) hM.fr fun a hS => ?_
 refine tkB hS 1 3 (by as_aux_lemma => kernel_rfl) rfl rfl rfl hQp rfl (fun w' hC' => (rv_len_rowM Try.underlying22 (hS.ev rfl) (hM.get 2 rfl))) hM.fr fun a hS => ?_
 refine tkB hS 2 7 (by as_aux_lemma => kernel_rfl) rfl rfl rfl hQp rfl (fun w' hC' => (rv_eql (hS.ev rfl) (hS.ev rfl))) hM.fr fun a hS => ?_
 refine tkB hS 3 15 (by as_aux_lemma => kernel_rfl) rfl rfl rfl hQp rfl (fun w' hC' => (rv_move (hS.ev rfl))) hM.fr fun a hS => ?_
 rcases ite_some hF with ⟨hc, hF⟩ | ⟨hc, hF⟩
 ·have hS := hS.setb (t := 8) rfl hc
  refine tkB hS 4 31 (by as_aux_lemma => kernel_rfl) rfl rfl rfl hQp rfl (fun w' hC' => (rv_load_agg (hS.ev rfl) ty_ag_28 ((hB.fra hC').get 0 rfl) ty_sz_28)) hM.fr fun a hS => ?_
  refine tkB hS 5 63 (by as_aux_lemma => kernel_rfl) rfl rfl rfl hQp rfl (fun w' hC' => (rv_move (hS.ev rfl))) hM.fr fun a hS => ?_
  obtain ⟨r25, hr, hF⟩ := bind_some hF
  refine an_oneB hS (i := 6) 127 (by as_aux_lemma => kernel_rfl) rfl (by as_aux_lemma => kernel_rfl) rfl ?_
  refine wp_call hS rfl rfl (by decide) fn_ok_93 rfl (c_spec_l4Distinct F p0_g_Size p0_g_Rows p1_l p0_g_Rowsv p1_lv hr _ (hM.get 1 rfl) (hM.get 2 rfl)) fun v w a hK hS => ?_
  obtain ⟨rfl, hN⟩ := hK
  have hM := hM.fra hN.fr
  refine ⟨hM.fr, ?_⟩
  refine tkB hS 7 255 (by as_aux_lemma => kernel_rfl) rfl rfl rfl hQp rfl (fun w' hC' => (rv_pick_t (hS.ev rfl) (hS.ev rfl))) hM.fr fun a hS => ?_
  refine tkB hS 8 511 (by as_aux_lemma => kernel_rfl) rfl rfl rfl hQp rfl (fun w' hC' => (rv_move (hS.ev rfl))) hM.fr fun a hS => ?_
  rcases ite_some hF with ⟨hc, hF⟩ | ⟨hc, hF⟩
  ·have hS := hS.setb (t := 13) rfl hc
   refine tkB hS 9 1023 (by as_aux_lemma => kernel_rfl) rfl rfl rfl hQp rfl (fun w' hC' => (rv_load_agg (hS.ev rfl) ty_ag_28 ((hB.fra hC').get 0 rfl) ty_sz_28)) hM.fr fun a hS => ?_
   refine tkB hS 10 2047 (by as_aux_lemma => kernel_rfl) rfl rfl rfl hQp rfl (fun w' hC' => (rv_move (hS.ev rfl))) hM.fr fun a hS => ?_
   obtain ⟨x26, hx, hF⟩ := bind_some hF
   obtain ⟨hi0, hi1, hex26⟩ := idxL_some hx
   refine tkB hS 11 4095 (by as_aux_lemma => kernel_rfl) rfl rfl rfl hQp rfl (fun w' hC' => (rv_indexAddr Try.underlying22 ty_el_3 (hS.ev rfl) (hS.ev rfl) (hM.get 2 rfl) hi0 (map_len hi1))) hM.fr fun a hS => ?_
   refine tkB hS 12 8191 (by as_aux_lemma => kernel_rfl) rfl rfl rfl hQp rfl (fun w' hC' => (rv_load_el (hS.ev rfl) ty_ag_3 ((hB.fra hC').get 2 rfl) (mget hex26))) hM.fr fun a hS => ?_
   refine tkB hS 13 16383 (by as_aux_lemma => kernel_rfl) rfl rfl rfl hQp rfl (fun w' hC' => (rv_move (hS.ev rfl))) hM.fr fun a hS => ?_
   obtain ⟨x27, hx, hF⟩ := bind_some hF
   obtain ⟨hi0, hi1, hex27⟩ := idxL_some hx
   refine tkB hS 14 32767 (by as_aux_lemma => kernel_rfl) rfl rfl rfl hQp rfl (fun w' hC' => (rv_indexAddr Try.underlying22 ty_el_3 (hS.ev rfl) (hS.ev rfl) (hM.get 2 rfl) hi0 (map_len hi1))) hM.fr fun a hS => ?_
   refine tkB hS 15 65535 (by as_aux_lemma => kernel_rfl) rfl rfl rfl hQp rfl (fun w' hC' => (rv_load_el (hS.ev rfl) ty_ag_3 ((hB.fra hC').get 2 rfl) (mget hex27))) hM.fr fun a hS => ?_
   obtain ⟨r28, hr, hF⟩ := bind_some hF
   refine an_oneB hS (i := 16) 131071 (by as_aux_lemma => kernel_rfl) rfl (by as_aux_lemma => kernel_rfl) rfl ?_
   refine wp_call hS rfl rfl (by decide) fn_ok_94 rfl (c_spec_l2Edge F p0_g_Size p0_g_Rows x26 x27 p0_g_Rowsv hr _ (hM.get 1 rfl)) fun v w a hK hS => ?_
   obtain ⟨rfl, hN⟩ := hK
   have hM := hM.fra hN.fr
   refine ⟨hM.fr, ?_⟩
   refine tkB hS 17 262143 (by as_aux_lemma => kernel_rfl) rfl rfl rfl hQp rfl (fun w' hC' => (rv_pick_t (hS.ev rfl) (hS.ev rfl))) hM.fr fun a hS => ?_
   refine tkB hS 18 524287 (by as_aux_lemma => kernel_rfl) rfl rfl rfl hQp rfl (fun w' hC' => (rv_move (hS.ev rfl))) hM.fr fun a hS => ?_
   rcases ite_some hF with ⟨hc, hF⟩ | ⟨hc, hF⟩
   ·have hS := hS.setb (t := 23) rfl hc
    refine tkB hS 19 1048575 (by as_aux_lemma => kernel_rfl) rfl rfl rfl hQp rfl (fun w' hC' => (rv_load_agg (hS.ev rfl) ty_ag_28 ((hB.fra hC').get 0 rfl) ty_sz_28)) hM.fr fun a hS => ?_
    refine tkB hS 20 2097151 (by as_aux_lemma => kernel_rfl) rfl rfl rfl hQp rfl (fun w' hC' => (rv_move (hS.ev rfl))) hM.fr fun a hS => ?_
    obtain ⟨x29, hx, hF⟩ := bind_some hF
    obtain ⟨hi0, hi1, hex29⟩ := idxL_some hx
    refine tkB hS 21 4194303 (by as_aux_lemma => kernel_rfl) rfl rfl rfl hQp rfl (fun w' hC' => (rv_indexAddr Try.underlying22 ty_el_3 (hS.ev rfl) (hS.ev rfl) (hM.get 2 rfl) hi0 (map_len hi1))) hM.fr fun a hS => ?_
    refine tkB hS 22 8388607 (by as_aux_lemma => kernel_rfl) rfl rfl rfl hQp rfl (fun w' hC' => (rv_load_el (hS.ev rfl) ty_ag_3 ((hB.fra hC').get 2 rfl) (mget hex29))) hM.fr fun a hS => ?_
    refine tkB hS 23 16777215 (by as_aux_lemma => kernel_rfl) rfl rfl rfl hQp rfl (fun w' hC' => (rv_move (hS.ev rfl))) hM.fr fun a hS => ?_
    obtain ⟨x30, hx, hF⟩ := bind_some hF
    obtain ⟨hi0, hi1, hex30⟩ := idxL_some hx
    refine tkB hS 24 33554431 (by as_aux_lemma => kernel_rfl) rfl rfl rfl hQp rfl (fun w' hC' => (rv_indexAddr Try.underlying22 ty_el_3 (hS.ev rfl) (hS.ev rfl) (hM.get 2 rfl) hi0 (map_len hi1))) hM.fr fun a hS => ?_
    refine tkB hS 25 67108863 (by as_aux_lemma => kernel_rfl) rfl rfl rfl hQp rfl (fun w' hC' => (rv_load_el (hS.ev rfl) ty_ag_3 ((hB.fra hC').get 2 rfl) (mget hex30))) hM.fr fun a hS => ?_
    obtain ⟨r31, hr, hF⟩ := bind_some hF
    refine an_oneB hS (i := 26) 134217727 (by as_aux_lemma => kernel_rfl) rfl (by as_aux_lemma => kernel_rfl) rfl ?_
    refine wp_call hS rfl rfl (by decide) fn_ok_94 rfl (c_spec_l2Edge F p0_g_Size p0_g_Rows x29 x30 p0_g_Rowsv hr _ (hM.get 1 rfl)) fun v w a hK hS => ?_
    obtain ⟨rfl, hN⟩ := hK
    have hM := hM.fra hN.fr
    refine ⟨hM.fr, ?_⟩
    refine tkB hS 27 268435455 (by as_aux_lemma => kernel_rfl) rfl rfl rfl hQp rfl (fun w' hC' => (rv_pick_t (hS.ev rfl) (hS.ev rfl))) hM.fr fun a hS => ?_
    refine tkB hS 28 536870911 (by as_aux_lemma => kernel_rfl) rfl rfl rfl hQp rfl (fun w' hC' => (rv_move (hS.ev rfl))) hM.fr fun a hS => ?_
    rcases ite_some hF with ⟨hc, hF⟩ | ⟨hc, hF⟩
    ·have hS := hS.setb (t := 33) rfl hc
     refine tkB hS 29 1073741823 (by as_aux_lemma => kernel_rfl) rfl rfl rfl hQp rfl (fun w' hC' => (rv_load_agg (hS.ev rfl) ty_ag_28 ((hB.fra hC').get 0 rfl) ty_sz_28)) hM.fr fun a hS => ?_
     refine tkB hS 30 2147483647 (by as_aux_lemma => kernel_rfl) rfl rfl rfl hQp rfl (fun w' hC' => (rv_move (hS.ev rfl))) hM.fr fun a hS => ?_
     obtain ⟨x32, hx, hF⟩ := bind_some hF
     obtain ⟨hi0, hi1, hex32⟩ := idxL_some hx
     refine tkB hS 31 4294967295 (by as_aux_lemma => kernel_rfl) rfl rfl rfl hQp rfl (fun w' hC' => (rv_indexAddr Try.underlying22 ty_el_3 (hS.ev rfl) (hS.ev rfl) (hM.get 2 rfl) hi0 (map_len hi1))) hM.fr fun a hS => ?_
     refine tkB hS 32 8589934591 (by as_aux_lemma => kernel_rfl) rfl rfl rfl hQp rfl (fun w' hC' => (rv_load_el (hS.ev rfl) ty_ag_3 ((hB.fra hC').get 2 rfl) (mget hex32))) hM.fr fun a hS => ?_
     refine tkB hS 33 17179869183 (by as_aux_lemma => kernel_rfl) rfl rfl rfl hQp rfl (fun w' hC' => (rv_move (hS.ev rfl))) hM.fr fun a hS => ?_
     obtain ⟨x33, hx, hF⟩ := bind_some hF
     obtain ⟨hi0, hi1, hex33⟩ := idxL_some hx
     refine tkB hS 34 34359738367 (by as_aux_lemma => kernel_rfl) rfl rfl rfl hQp rfl (fun w' hC' => (rv_indexAddr Try.underlying22 ty_el_3 (hS.ev rfl) (hS.ev rfl) (hM.get 2 rfl) hi0 (map_len hi1))) hM.fr fun a hS => ?_
     refine tkB hS 35 68719476735 (by as_aux_lemma => kernel_rfl) rfl rfl rfl hQp rfl (fun w' hC' => (rv_load_el (hS.ev rfl) ty_ag_3 ((hB.fra hC').get 2 rfl) (mget hex33))) hM.fr fun a hS => ?_
     obtain ⟨r34, hr, hF⟩ := bind_some hF
     refine an_oneB hS (i := 36) 137438953471 (by as_aux_lemma => kernel_rfl) rfl (by as_aux_lemma => kernel_rfl) rfl ?_
     refine wp_call hS rfl rfl (by decide) fn_ok_94 rfl (c_spec_l2Edge F p0_g_Size p0_g_Rows x32 x33 p0_g_Rowsv hr _ (hM.get 1 rfl)) fun v w a hK hS => ?_
     obtain ⟨rfl, hN⟩ := hK
     have hM := hM.fra hN.fr
     refine ⟨hM.fr, ?_⟩
     refine tkB hS 37 274877906943 (by as_aux_lemma => kernel_rfl) rfl rfl rfl hQp rfl (fun w' hC' => (rv_pick_t (hS.ev rfl) (hS.ev rfl))) hM.fr fun a hS => ?_
     refine tkB hS 38 549755813887 (by as_aux_lemma => kernel_rfl) rfl rfl rfl hQp rfl (fun w' hC' => (rv_move (hS.ev rfl))) hM.fr fun a hS => ?_
     rcases ite_some hF with ⟨hc, hF⟩ | ⟨hc, hF⟩
     ·have hS := hS.setb (t := 43) rfl hc
      refine tkB hS 39 1099511627775 (by as_aux_lemma => kernel_rfl) rfl rfl rfl hQp rfl (fun w' hC' => (rv_load_agg (hS.ev rfl) ty_ag_28 ((hB.fra hC').get 0 rfl) ty_sz_28)) hM.fr fun a hS => ?_
      refine tkB hS 40 2199023255551 (by as_aux_lemma => kernel_rfl) rfl rfl rfl hQp rfl (fun w' hC' => (rv_move (hS.ev rfl))) hM.fr fun a hS => ?_
      obtain ⟨x35, hx, hF⟩ := bind_some hF
      obtain ⟨hi0, hi1, hex35⟩ := idxL_some hx
      refine tkB hS 41 4398046511103 (by as_aux_lemma => kernel_rfl) rfl rfl rfl hQp rfl (fun w' hC' => (rv_indexAddr Try.underlying22 ty_el_3 (hS.ev rfl) (hS.ev rfl) (hM.get 2 rfl) hi0 (map_len hi1))) hM.fr fun a hS => ?_
      refine tkB hS 42 8796093022207 (by as_aux_lemma => kernel_rfl) rfl rfl rfl hQp rfl (fun w' hC' => (rv_load_el (hS.ev rfl) ty_ag_3 ((hB.fra hC').get 2 rfl) (mget hex35))) hM.fr fun a hS => ?_
      refine tkB hS 43 17592186044415 (by as_aux_lemma => kernel_rfl) rfl rfl rfl hQp rfl (fun w' hC' => (rv_move (hS.ev rfl))) hM.fr fun a hS => ?_
      obtain ⟨x36, hx, hF⟩ := bind_some hF
      obtain ⟨hi0, hi1, hex36⟩ := idxL_some hx
      refine tkB hS 44 35184372088831 (by as_aux_lemma => kernel_rfl) rfl rfl rfl hQp rfl (fun w' hC' => (rv_indexAddr Try.underlying22 ty_el_3 (hS.ev rfl) (hS.ev rfl) (hM.get 2 rfl) hi0 (map_len hi1))) hM.fr fun a hS => ?_
      refine tkB hS 45 70368744177663 (by as_aux_lemma => kernel_rfl) rfl rfl rfl hQp rfl (fun w' hC' => (rv_load_el (hS.ev rfl) ty_ag_3 ((hB.fra hC').get 2 rfl) (mget hex36))) hM.fr fun a hS => ?_
      obtain ⟨r37, hr, hF⟩ := bind_some hF
      refine an_oneB hS (i := 46) 140737488355327 (by as_aux_lemma => kernel_rfl) rfl (by as_aux_lemma => kernel_rfl) rfl ?_
      refine wp_call hS rfl rfl (by decide) fn_ok_94 rfl (c_spec_l2Edge F p0_g_Size p0_g_Rows x35 x36 p0_g_Rowsv hr _ (hM.get 1 rfl)) fun v w a hK hS => ?_
      obtain ⟨rfl, hN⟩ := hK
      have hM := hM.fra hN.fr
      refine ⟨hM.fr, ?_⟩
      refine tkB hS 47 281474976710655 (by as_aux_lemma => kernel_rfl) rfl rfl rfl hQp rfl (fun w' hC' => (rv_not (hS.ev rfl))) hM.fr fun a hS => ?_
      refine tkB hS 48 562949953421311 (by as_aux_lemma => kernel_rfl) rfl rfl rfl hQp rfl (fun w' hC' => (rv_pick_t (hS.ev rfl) (hS.ev rfl))) hM.fr fun a hS => ?_
      refine tkB hS 49 1125899906842623 (by as_aux_lemma => kernel_rfl) rfl rfl rfl hQp rfl (fun w' hC' => (rv_move (hS.ev rfl))) hM.fr fun a hS => ?_
      rcases ite_some hF with ⟨hc, hF⟩ | ⟨hc, hF⟩
      ·have hS := hS.setb (t := 54) rfl hc
       refine tkB hS 50 2251799813685247 (by as_aux_lemma => kernel_rfl) rfl rfl rfl hQp rfl (fun w' hC' => (rv_load_agg (hS.ev rfl) ty_ag_28 ((hB.fra hC').get 0 rfl) ty_sz_28)) hM.fr fun a hS => ?_
       refine tkB hS 51 4503599627370495 (by as_aux_lemma => kernel_rfl) rfl rfl rfl hQp rfl (fun w' hC' => (rv_move (hS.ev rfl))) hM.fr fun a hS => ?_
       obtain ⟨x38, hx, hF⟩ := bind_some hF
       obtain ⟨hi0, hi1, hex38⟩ := idxL_some hx
       refine tkB hS 52 9007199254740991 (by as_aux_lemma => kernel_rfl) rfl rfl rfl hQp rfl (fun w' hC' => (rv_indexAddr Try.underlying22 ty_el_3 (hS.ev rfl) (hS.ev rfl) (hM.get 2 rfl) hi0 (map_len hi1))) hM.fr fun a hS => ?_
       refine tkB hS 53 18014398509481983 (by as_aux_lemma => kernel_rfl) rfl rfl rfl hQp rfl (fun w' hC' => (rv_load_el (hS.ev rfl) ty_ag_3 ((hB.fra hC').get 2 rfl) (mget hex38))) hM.fr fun a hS => ?_
       refine tkB hS 54 36028797018963967 (by as_aux_lemma => kernel_rfl) rfl rfl rfl hQp rfl (fun w' hC' => (rv_move (hS.ev rfl))) hM.fr fun a hS => ?_
       obtain ⟨x39, hx, hF⟩ := bind_some hF
       obtain ⟨hi0, hi1, hex39⟩ := idxL_some hx
       refine tkB hS 55 72057594037927935 (by as_aux_lemma => kernel_rfl) rfl rfl rfl hQp rfl (fun w' hC' => (rv_indexAddr Try.underlying22 ty_el_3 (hS.ev rfl) (hS.ev rfl) (hM.get 2 rfl) hi0 (map_len hi1))) hM.fr fun a hS => ?_
       refine tkB hS 56 144115188075855871 (by as_aux_lemma => kernel_rfl) rfl rfl rfl hQp rfl (fun w' hC' => (rv_load_el (hS.ev rfl) ty_ag_3 ((hB.fra hC').get 2 rfl) (mget hex39))) hM.fr fun a hS => ?_
       obtain ⟨r40, hr, hF⟩ := bind_some hF
       refine an_oneB hS (i := 57) 288230376151711743 (by as_aux_lemma => kernel_rfl) rfl (by as_aux_lemma => kernel_rfl) rfl ?_
       refine wp_call hS rfl rfl (by decide) fn_ok_94 rfl (c_spec_l2Edge F p0_g_Size p0_g_Rows x38 x39 p0_g_Rowsv hr _ (hM.get 1 rfl)) fun v w a hK hS => ?_
       obtain ⟨rfl, hN⟩ := hK
       have hM := hM.fra hN.fr
       refine ⟨hM.fr, ?_⟩
       refine tkB hS 58 576460752303423487 (by as_aux_lemma => kernel_rfl) rfl rfl rfl hQp rfl (fun w' hC' => (rv_not (hS.ev rfl))) hM.fr fun a hS => ?_
       refine tkB hS 59 1152921504606846975 (by as_aux_lemma => kernel_rfl) rfl rfl rfl hQp rfl (fun w' hC' => (rv_pick_t (hS.ev rfl) (hS.ev rfl))) hM.fr fun a hS => ?_
       refine tkB hS 60 2305843009213693951 (by as_aux_lemma => kernel_rfl) rfl rfl rfl hQp rfl (fun w' hC' => (rv_move (hS.ev rfl))) hM.fr fun a hS => ?_
       rcases ite_some hF with ⟨hc, hF⟩ | ⟨hc, hF⟩
       ·have hS := hS.setb (t := 65) rfl hc
        refine tkB hS 61 4611686018427387903 (by as_aux_lemma => kernel_rfl) rfl rfl rfl hQp rfl (fun w' hC' => (rv_load_agg (hS.ev rfl) ty_ag_28 ((hB.fra hC').get 0 rfl) ty_sz_28)) hM.fr fun a hS => ?_
        refine tkB hS 62 9223372036854775807 (by as_aux_lemma => kernel_rfl) rfl rfl rfl hQp rfl (fun w' hC' => (rv_move (hS.ev rfl))) hM.fr fun a hS => ?_
        obtain ⟨x41, hx, hF⟩ := bind_some hF
        obtain ⟨hi0, hi1, hex41⟩ := idxL_some hx
        refine tkB hS 63 18446744073709551615 (by as_aux_lemma => kernel_rfl) rfl rfl rfl hQp rfl (fun w' hC' => (rv_indexAddr Try.underlying22 ty_el_3 (hS.ev rfl) (hS.ev rfl) (hM.get 2 rfl) hi0 (map_len hi1))) hM.fr fun a hS => ?_
        refine tkB hS 64 36893488147419103231 (by as_aux_lemma => kernel_rfl) rfl rfl rfl hQp rfl (fun w' hC' => (rv_load_el (hS.ev rfl) ty_ag_3 ((hB.fra hC').get 2 rfl) (mget hex41))) hM.fr fun a hS => ?_
        refine tkB hS 65 73786976294838206463 (by as_aux_lemma => kernel_rfl) rfl rfl rfl hQp rfl (fun w' hC' => (rv_move (hS.ev rfl))) hM.fr fun a hS => ?_
        obtain ⟨x42, hx, hF⟩ := bind_some hF
        obtain ⟨hi0, hi1, hex42⟩ := idxL_some hx
        refine tkB hS 66 147573952589676412927 (by as_aux_lemma => kernel_rfl) rfl rfl rfl hQp rfl (fun w' hC' => (rv_indexAddr Try.underlying22 ty_el_3 (hS.ev rfl) (hS.ev rfl) (hM.get 2 rfl) hi0 (map_len hi1))) hM.fr fun a hS => ?_
        refine tkB hS 67 295147905179352825855 (by as_aux_lemma => kernel_rfl) rfl rfl rfl hQp rfl (fun w' hC' => (rv_load_el (hS.ev rfl) ty_ag_3 ((hB.fra hC').get 2 rfl) (mget hex42))) hM.fr fun a hS => ?_
        obtain ⟨r43, hr, hF⟩ := bind_some hF
        refine an_oneB hS (i := 68) 590295810358705651711 (by as_aux_lemma => kernel_rfl) rfl (by as_aux_lemma => kernel_rfl) rfl ?_
        refine wp_call hS rfl rfl (by decide) fn_ok_94 rfl (c_spec_l2Edge F p0_g_Size p0_g_Rows x41 x42 p0_g_Rowsv hr _ (hM.get 1 rfl)) fun v w a hK hS => ?_
        obtain ⟨rfl, hN⟩ := hK
        have hM := hM.fra hN.fr
        refine ⟨hM.fr, ?_⟩
        refine tkB hS 69 1180591620717411303423 (by as_aux_lemma => kernel_rfl) rfl rfl rfl hQp rfl (fun w' hC' => (rv_not (hS.ev rfl))) hM.fr fun a hS => ?_
        refine tkB hS 70 2361183241434822606847 (by as_aux_lemma => kernel_rfl) rfl rfl rfl hQp rfl (fun w' hC' => (rv_pick_t (hS.ev rfl) (hS.ev rfl))) hM.fr fun a hS => ?_
        refine tkB hS 71 4722366482869645213695 (by as_aux_lemma => kernel_rfl) rfl rfl rfl hQp rfl (fun w' hC' => (rv_assign (hS.ev rfl))) hM.fr fun a hS => ?_
        refine an_done (by as_aux_lemma => kernel_rfl) ?_
        have hN := hM.pick [] (by decide) rfl
        have hM := Mem.callo0 hB hN rfl
        exact hJ1 (!r43) _ _ (hS.sub (sub_cons rfl sub_nil)) (hM.pick [] (by decide) rfl) hF
       ·have hS := hS.setb (t := 65) rfl hc
        refine skB hS [61, 62, 63, 64, 65, 66, 67, 68, 69] [66, 67, 68, 69, 70, 71, 72, 73, 74] 1180591620717411303423 2 rfl (by as_aux_lemma => kernel_rfl) hQp hM.fr fun a hS => ?_
        refine tkB hS 70 2361183241434822606847 (by as_aux_lemma => kernel_rfl) rfl rfl rfl hQp rfl (fun w' hC' => (rv_pick_f (hS.ev rfl) (hS.ev rfl))) hM.fr fun a hS => ?_
        refine tkB hS 71 4722366482869645213695 (by as_aux_lemma => kernel_rfl) rfl rfl rfl hQp rfl (fun w' hC' => (rv_assign (hS.ev rfl))) hM.fr fun a hS => ?_
        refine an_done (by as_aux_lemma => kernel_rfl) ?_
        have hN := hM.pick [] (by decide) rfl
        have hM := Mem.callo0 hB hN rfl
        exact hJ1 false _ _ (hS.sub (sub_cons rfl sub_nil)) (hM.pick [] (by decide) rfl) hF
      ·have hS := hS.setb (t := 54) rfl hc
       refine skB hS [50, 51, 52, 53, 54, 55, 56, 57, 58] [55, 56, 57, 58, 59, 60, 61, 62, 63] 576460752303423487 13 rfl (by as_aux_lemma => kernel_rfl) hQp hM.fr fun a hS => ?_
       refine tkB hS 59 1152921504606846975 (by as_aux_lemma => kernel_rfl) rfl rfl rfl hQp rfl (fun w' hC' => (rv_pick_f (hS.ev rfl) (hS.ev rfl))) hM.fr fun a hS => ?_
       refine tkB hS 60 2305843009213693951 (by as_aux_lemma => kernel_rfl) rfl rfl rfl hQp rfl (fun w' hC' => (rv_move (hS.ev rfl))) hM.fr fun a hS => ?_
       refine skB hS [61, 62, 63, 64, 65, 66, 67, 68, 69] [66, 67, 68, 69, 70, 71, 72, 73, 74] 1180591620717411303423 2 rfl (by as_aux_lemma => kernel_rfl) hQp hM.fr fun a hS => ?_
       refine tkB hS 70 2361183241434822606847 (by as_aux_lemma => kernel_rfl) rfl rfl rfl hQp rfl (fun w' hC' => (rv_pick_f (hS.ev rfl) (hS.ev rfl))) hM.fr fun a hS => ?_
       refine tkB hS 71 4722366482869645213695 (by as_aux_lemma => kernel_rfl) rfl rfl rfl hQp rfl (fun w' hC' => (rv_assign (hS.ev rfl))) hM.fr fun a hS => ?_
       refine an_done (by as_aux_lemma => kernel_rfl) ?_
       have hN := hM.pick [] (by decide) rfl
       have hM := Mem.callo0 hB hN rfl
       exact hJ1 false _ _ (hS.sub (sub_cons rfl sub_nil)) (hM.pick [] (by decide) rfl) hF
     ·have hS := hS.setb (t := 43) rfl hc
      refine skB hS [39, 40, 41, 42, 43, 44, 45, 46, 47] [44, 45, 46, 47, 48, 49, 50, 51, 52] 281474976710655 24 rfl (by as_aux_lemma => kernel_rfl) hQp hM.fr fun a hS => ?_
      refine tkB hS 48 562949953421311 (by as_aux_lemma => kernel_rfl) rfl rfl rfl hQp rfl (fun w' hC' => (rv_pick_f (hS.ev rfl) (hS.ev rfl))) hM.fr fun a hS => ?_
      refine tkB hS 49 1125899906842623 (by as_aux_lemma => kernel_rfl) rfl rfl rfl hQp rfl (fun w' hC' => (rv_move (hS.ev rfl))) hM.fr fun a hS => ?_
      refine skB hS [50, 51, 52, 53, 54, 55, 56, 57, 58] [55, 56, 57, 58, 59, 60, 61, 62, 63] 576460752303423487 13 rfl (by as_aux_lemma => kernel_rfl) hQp hM.fr fun a hS => ?_
      refine tkB hS 59 1152921504606846975 (by as_aux_lemma => kernel_rfl) rfl rfl rfl hQp rfl (fun w' hC' => (rv_pick_f (hS.ev rfl) (hS.ev rfl))) hM.fr fun a hS => ?_
      refine tkB hS 60 2305843009213693951 (by as_aux_lemma => kernel_rfl) rfl rfl rfl hQp rfl (fun w' hC' => (rv_move (hS.ev rfl))) hM.fr fun a hS => ?_
      refine skB hS [61, 62, 63, 64, 65, 66, 67, 68, 69] [66, 67, 68, 69, 70, 71, 72, 73, 74] 1180591620717411303423 2 rfl (by as_aux_lemma => kernel_rfl) hQp hM.fr fun a hS => ?_
      refine tkB hS 70 2361183241434822606847 (by as_aux_lemma => kernel_rfl) rfl rfl rfl hQp rfl (fun w' hC' => (rv_pick_f (hS.ev rfl) (hS.ev rfl))) hM.fr fun a hS => ?_
      refine tkB hS 71 4722366482869645213695 (by as_aux_lemma => kernel_rfl) rfl rfl rfl hQp rfl (fun w' hC' => (rv_assign (hS.ev rfl))) hM.fr fun a hS => ?_
      refine an_done (by as_aux_lemma => kernel_rfl) ?_
      have hN := hM.pick [] (by decide) rfl
      have hM := Mem.callo0 hB hN rfl
      exact hJ1 false _ _ (hS.sub (sub_cons rfl sub_nil)) (hM.pick [] (by decide) rfl) hF
    ·have hS := hS.setb (t := 33) rfl hc
     refine skB hS [29, 30, 31, 32, 33, 34, 35, 36] [34, 35, 36, 37, 38, 39, 40, 41] 137438953471 35 rfl (by as_aux_lemma => kernel_rfl) hQp hM.fr fun a hS => ?_
     refine tkB hS 37 274877906943 (by as_aux_lemma => kernel_rfl) rfl rfl rfl hQp rfl (fun w' hC' => (rv_pick_f (hS.ev rfl) (hS.ev rfl))) hM.fr fun a hS => ?_
     refine tkB hS 38 549755813887 (by as_aux_lemma => kernel_rfl) rfl rfl rfl hQp rfl (fun w' hC' => (rv_move (hS.ev rfl))) hM.fr fun a hS => ?_
     refine skB hS [39, 40, 41, 42, 43, 44, 45, 46, 47] [44, 45, 46, 47, 48, 49, 50, 51, 52] 281474976710655 24 rfl (by as_aux_lemma => kernel_rfl) hQp hM.fr fun a hS => ?_
     refine tkB hS 48 562949953421311 (by as_aux_lemma => kernel_rfl) rfl rfl rfl hQp rfl (fun w' hC' => (rv_pick_f (hS.ev rfl) (hS.ev rfl))) hM.fr fun a hS => ?_
     refine tkB hS 49 1125899906842623 (by as_aux_lemma => kernel_rfl) rfl rfl rfl hQp rfl (fun w' hC' => (rv_move (hS.ev rfl))) hM.fr fun a hS => ?_
     refine skB hS [50, 51, 52, 53, 54, 55, 56, 57, 58] [55, 56, 57, 58, 59, 60, 61, 62, 63] 576460752303423487 13 rfl (by as_aux_lemma => kernel_rfl) hQp hM.fr fun a hS => ?_
     refine tkB hS 59 1152921504606846975 (by as_aux_lemma => kernel_rfl) rfl rfl rfl hQp rfl (fun w' hC' => (rv_pick_f (hS.ev rfl) (hS.ev rfl))) hM.fr fun a hS => ?_
     refine tkB hS 60 2305843009213693951 (by as_aux_lemma => kernel_rfl) rfl rfl rfl hQp rfl (fun w' hC' => (rv_move (hS.ev rfl))) hM.fr fun a hS => ?_
     refine skB hS [61, 62, 63, 64, 65, 66, 67, 68, 69] [66, 67, 68, 69, 70, 71, 72, 73, 74] 1180591620717411303423 2 rfl (by as_aux_lemma => kernel_rfl) hQp hM.fr fun a hS => ?_
     refine tkB hS 70 2361183241434822606847 (by as_aux_lemma => kernel_rfl) rfl rfl rfl hQp rfl (fun w' hC' => (rv_pick_f (hS.ev rfl) (hS.ev rfl))) hM.fr fun a hS => ?_
     refine tkB hS 71 4722366482869645213695 (by as_aux_lemma => kernel_rfl) rfl rfl rfl hQp rfl (fun w' hC' => (rv_assign (hS.ev rfl))) hM.fr fun a hS => ?_
     refine an_done (by as_aux_lemma => kernel_rfl) ?_
     have hN := hM.pick [] (by decide) rfl
     have hM := Mem.callo0 hB hN rfl
     exact hJ1 false _ _ (hS.sub (sub_cons rfl sub_nil)) (hM.pick [] (by decide) rfl) hF
   ·have hS := hS.setb (t := 23) rfl hc
    refine skB hS [19, 20, 21, 22, 23, 24, 25, 26] [24, 25, 26, 27, 28, 29, 30, 31] 134217727 45 rfl (by as_aux_lemma => kernel_rfl) hQp hM.fr fun a hS => ?_
    refine tkB hS 27 268435455 (by as_aux_lemma => kernel_rfl) rfl rfl rfl hQp rfl (fun w' hC' => (rv_pick_f (hS.ev rfl) (hS.ev rfl))) hM.fr fun a hS => ?_
    refine tkB hS 28 536870911 (by as_aux_lemma => kernel_rfl) rfl rfl rfl hQp rfl (fun w' hC' => (rv_move (hS.ev rfl))) hM.fr fun a hS => ?_
    refine skB hS [29, 30, 31, 32, 33, 34, 35, 36] [34, 35, 36, 37, 38, 39, 40, 41] 137438953471 35 rfl (by as_aux_lemma => kernel_rfl) hQp hM.fr fun a hS => ?_
    refine tkB hS 37 274877906943 (by as_aux_lemma => kernel_rfl) rfl rfl rfl hQp rfl (fun w' hC' => (rv_pick_f (hS.ev rfl) (hS.ev rfl))) hM.fr fun a hS => ?_
    refine tkB hS 38 549755813887 (by as_aux_lemma => kernel_rfl) rfl rfl rfl hQp rfl (fun w' hC' => (rv_move (hS.ev rfl))) hM.fr fun a hS => ?_
    refine skB hS [39, 40, 41, 42, 43, 44, 45, 46, 47] [44, 45, 46, 47, 48, 49, 50, 51, 52] 281474976710655 24 rfl (by as_aux_lemma => kernel_rfl) hQp hM.fr fun a hS => ?_
    refine tkB hS 48 562949953421311 (by as_aux_lemma => kernel_rfl) rfl rfl rfl hQp rfl (fun w' hC' => (rv_pick_f (hS.ev rfl) (hS.ev rfl))) hM.fr fun a hS => ?_
    refine tkB hS 49 1125899906842623 (by as_aux_lemma => kernel_rfl) rfl rfl rfl hQp rfl (fun w' hC' => (rv_move (hS.ev rfl))) hM.fr fun a hS => ?_
    refine skB hS [50, 51, 52, 53, 54, 55, 56, 57, 58] [55, 56, 57, 58, 59, 60, 61, 62, 63] 576460752303423487 13 rfl (by as_aux_lemma => kernel_rfl) hQp hM.fr fun a hS => ?_
    refine tkB hS 59 1152921504606846975 (by as_aux_lemma => kernel_rfl) rfl rfl rfl hQp rfl (fun w' hC' => (rv_pick_f (hS.ev rfl) (hS.ev rfl))) hM.fr fun a hS => ?_
    refine tkB hS 60 2305843009213693951 (by as_aux_lemma => kernel_rfl) rfl rfl rfl hQp rfl (fun w' hC' => (rv_move (hS.ev rfl))) hM.fr fun a hS => ?_
    refine skB hS [61, 62, 63, 64, 65, 66, 67, 68, 69] [66, 67, 68, 69, 70, 71, 72, 73, 74] 1180591620717411303423 2 rfl (by as_aux_lemma => kernel_rfl) hQp hM.fr fun a hS => ?_
    refine tkB hS 70 2361183241434822606847 (by as_aux_lemma => kernel_rfl) rfl rfl rfl hQp rfl (fun w' hC' => (rv_pick_f (hS.ev rfl) (hS.ev rfl))) hM.fr fun a hS => ?_
    refine tkB hS 71 4722366482869645213695 (by as_aux_lemma => kernel_rfl) rfl rfl rfl hQp rfl (fun w' hC' => (rv_assign (hS.ev rfl))) hM.fr fun a hS => ?_
    refine an_done (by as_aux_lemma => kernel_rfl) ?_
    have hN := hM.pick [] (by decide) rfl
    have hM := Mem.callo0 hB hN rfl
    exact hJ1 false _ _ (hS.sub (sub_cons rfl sub_nil)) (hM.pick [] (by decide) rfl) hF
  ·have hS := hS.setb (t := 13) rfl hc
   refine skB hS [9, 10, 11, 12, 13, 14, 15, 16] [14, 15, 16, 17, 18, 19, 20, 21] 131071 55 rfl (by as_aux_lemma => kernel_rfl) hQp hM.fr fun a hS => ?_
   refine tkB hS 17 262143 (by as_aux_lemma => kernel_rfl) rfl rfl rfl hQp rfl (fun w' hC' => (rv_pick_f (hS.ev rfl) (hS.ev rfl))) hM.fr fun a hS => ?_
   refine tkB hS 18 524287 (by as_aux_lemma => kernel_rfl) rfl rfl rfl hQp rfl (fun w' hC' => (rv_move (hS.ev rfl))) hM.fr fun a hS => ?_
   refine skB hS [19, 20, 21, 22, 23, 24, 25, 26] [24, 25, 26, 27, 28, 29, 30, 31] 134217727 45 rfl (by as_aux_lemma => kernel_rfl) hQp hM.fr fun a hS => ?_
   refine tkB hS 27 268435455 (by as_aux_lemma => kernel_rfl) rfl rfl rfl hQp rfl (fun w' hC' => (rv_pick_f (hS.ev rfl) (hS.ev rfl))) hM.fr fun a hS => ?_
   refine tkB hS 28 536870911 (by as_aux_lemma => kernel_rfl) rfl rfl rfl hQp rfl (fun w' hC' => (rv_move (hS.ev rfl))) hM.fr fun a hS => ?_
   refine skB hS [29, 30, 31, 32, 33, 34, 35, 36] [34, 35, 36, 37, 38, 39, 40, 41] 137438953471 35 rfl (by as_aux_lemma => kernel_rfl) hQp hM.fr fun a hS => ?_
   refine tkB hS 37 274877906943 (by as_aux_lemma => kernel_rfl) rfl rfl rfl hQp rfl (fun w' hC' => (rv_pick_f (hS.ev rfl) (hS.ev rfl))) hM.fr fun a hS => ?_
   refine tkB hS 38 549755813887 (by as_aux_lemma => kernel_rfl) rfl rfl rfl hQp rfl (fun w' hC' => (rv_move (hS.ev rfl))) hM.fr fun a hS => ?_
   refine skB hS [39, 40, 41, 42, 43, 44, 45, 46, 47] [44, 45, 46, 47, 48, 49, 50, 51, 52] 281474976710655 24 rfl (by as_aux_lemma => kernel_rfl) hQp hM.fr fun a hS => ?_
   refine tkB hS 48 562949953421311 (by as_aux_lemma => kernel_rfl) rfl rfl rfl hQp rfl (fun w' hC' => (rv_pick_f (hS.ev rfl) (hS.ev rfl))) hM.fr fun a hS => ?_
   refine tkB hS 49 1125899906842623 (by as_aux_lemma => kernel_rfl) rfl rfl rfl hQp rfl (fun w' hC' => (rv_move (hS.ev rfl))) hM.fr fun a hS => ?_
   refine skB hS [50, 51, 52, 53, 54, 55, 56, 57, 58] [55, 56, 57, 58, 59, 60, 61, 62, 63] 576460752303423487 13 rfl (by as_aux_lemma => kernel_rfl) hQp hM.fr fun a hS => ?_
   refine tkB hS 59 1152921504606846975 (by as_aux_lemma => kernel_rfl) rfl rfl rfl hQp rfl (fun w' hC' => (rv_pick_f (hS.ev rfl) (hS.ev rfl))) hM.fr fun a hS => ?_
   refine tkB hS 60 2305843009213693951 (by as_aux_lemma => kernel_rfl) rfl rfl rfl hQp rfl (fun w' hC' => (rv_move (hS.ev rfl))) hM.fr fun a hS => ?_
   refine skB hS [61, 62, 63, 64, 65, 66, 67, 68, 69] [66, 67, 68, 69, 70, 71, 72, 73, 74] 1180591620717411303423 2 rfl (by as_aux_lemma => kernel_rfl) hQp hM.fr fun a hS => ?_
   refine tkB hS 70 2361183241434822606847 (by as_aux_lemma => kernel_rfl) rfl rfl rfl hQp rfl (fun w' hC' => (rv_pick_f (hS.ev rfl) (hS.ev rfl))) hM.fr fun a hS => ?_
   refine tkB hS 71 4722366482869645213695 (by as_aux_lemma => kernel_rfl) rfl rfl rfl hQp rfl (fun w' hC' => (rv_assign (hS.ev rfl))) hM.fr fun a hS => ?_
   refine an_done (by as_aux_lemma => kernel_rfl) ?_
   have hN := hM.pick [] (by decide) rfl
   have hM := Mem.callo0 hB hN rfl
   exact hJ1 false _ _ (hS.sub (sub_cons rfl sub_nil)) (hM.pick [] (by decide) rfl) hF
 ·have hS := hS.setb (t := 8) rfl hc
  refine skB hS [4, 5, 6] [9, 10, 11] 127 65 rfl (by as_aux_lemma => kernel_rfl) hQp hM.fr fun a hS => ?_
  refine tkB hS 7 255 (by as_aux_lemma => kernel_rfl) rfl rfl rfl hQp rfl (fun w' hC' => (rv_pick_f (hS.ev rfl) (hS.ev rfl))) hM.fr fun a hS => ?_
  refine tkB hS 8 511 (by as_aux_lemma => kernel_rfl) rfl rfl rfl hQp rfl (fun w' hC' => (rv_move (hS.ev rfl))) hM.fr fun a hS => ?_
  refine skB hS [9, 10, 11, 12, 13, 14, 15, 16] [14, 15, 16, 17, 18, 19, 20, 21] 131071 55 rfl (by as_aux_lemma => kernel_rfl) hQp hM.fr fun a hS => ?_
  refine tkB hS 17 262143 (by as_aux_lemma => kernel_rfl) rfl rfl rfl hQp rfl (fun w' hC' => (rv_pick_f (hS.ev rfl) (hS.ev rfl))) hM.fr fun a hS => ?_
  refine tkB hS 18 524287 (by as_aux_lemma => kernel_rfl) rfl rfl rfl hQp rfl (fun w' hC' => (rv_move (hS.ev rfl))) hM.fr fun a hS => ?_
  refine skB hS [19, 20, 21, 22, 23, 24, 25, 26] [24, 25, 26, 27, 28, 29, 30, 31] 134217727 45 rfl (by as_aux_lemma => kernel_rfl) hQp hM.fr fun a hS => ?_
  refine tkB hS 27 268435455 (by as_aux_lemma => kernel_rfl) rfl rfl rfl hQp rfl (fun w' hC' => (rv_pick_f (hS.ev rfl) (hS.ev rfl))) hM.fr fun a hS => ?_
  refine tkB hS 28 536870911 (by as_aux_lemma => kernel_rfl) rfl rfl rfl hQp rfl (fun w' hC' => (rv_move (hS.ev rfl))) hM.fr fun a hS => ?_
  refine skB hS [29, 30, 31, 32, 33, 34, 35, 36] [34, 35, 36, 37, 38, 39, 40, 41] 137438953471 35 rfl (by as_aux_lemma => kernel_rfl) hQp hM.fr fun a hS => ?_
  refine tkB hS 37 274877906943 (by as_aux_lemma => kernel_rfl) rfl rfl rfl hQp rfl (fun w' hC' => (rv_pick_f (hS.ev rfl) (hS.ev rfl))) hM.fr fun a hS => ?_
  refine tkB hS 38 549755813887 (by as_aux_lemma => kernel_rfl) rfl rfl rfl hQp rfl (fun w' hC' => (rv_move (hS.ev rfl))) hM.fr fun a hS => ?_
  refine skB hS [39, 40, 41, 42, 43, 44, 45, 46, 47] [44, 45, 46, 47, 48, 49, 50, 51, 52] 281474976710655 24 rfl (by as_aux_lemma => kernel_rfl) hQp hM.fr fun a hS => ?_
  refine tkB hS 48 562949953421311 (by as_aux_lemma => kernel_rfl) rfl rfl rfl hQp rfl (fun w' hC' => (rv_pick_f (hS.ev rfl) (hS.ev rfl))) hM.fr fun a hS => ?_
  refine tkB hS 49 1125899906842623 (by as_aux_lemma => kernel_rfl) rfl rfl rfl hQp rfl (fun w' hC' => (rv_move (hS.ev rfl))) hM.fr fun a hS => ?_
  refine skB hS [50, 51, 52, 53, 54, 55, 56, 57, 58] [55, 56, 57, 58, 59, 60, 61, 62, 63] 576460752303423487 13 rfl (by as_aux_lemma => kernel_rfl) hQp hM.fr fun a hS => ?_
  refine tkB hS 59 1152921504606846975 (by as_aux_lemma => kernel_rfl) rfl rfl rfl hQp rfl (fun w' hC' => (rv_pick_f (hS.ev rfl) (hS.ev rfl))) hM.fr fun a hS => ?_
  refine tkB hS 60 2305843009213693951 (by as_aux_lemma => kernel_rfl) rfl rfl rfl hQp rfl (fun w' hC' => (rv_move (hS.ev rfl))) hM.fr fun a hS => ?_
  refine skB hS [61, 62, 63, 64, 65, 66, 67, 68, 69] [66, 67, 68, 69, 70, 71, 72, 73, 74] 1180591620717411303423 2 rfl (by as_aux_lemma => kernel_rfl) hQp hM.fr fun a hS => ?_
  refine tkB hS 70 2361183241434822606847 (by as_aux_lemma => kernel_rfl) rfl rfl rfl hQp rfl (fun w' hC' => (rv_pick_f (hS.ev rfl) (hS.ev rfl))) hM.fr fun a hS => ?_
  refine tkB hS 71 4722366482869645213695 (by as_aux_lemma => kernel_rfl) rfl rfl rfl hQp rfl (fun w' hC' => (rv_assign (hS.ev rfl))) hM.fr fun a hS => ?_
  refine an_done (by as_aux_lemma => kernel_rfl) ?_
  have hN := hM.pick [] (by decide) rfl
  have hM := Mem.callo0 hB hN rfl
  exact hJ1 false _ _ (hS.sub (sub_cons rfl sub_nil)) (hM.pick [] (by decide) rfl) hF


theorem c_spec_IsTwoEdges (F : Nat) (p0_g_Size : Int) (p0_g_Rows : List Int) (p1_l : List Int) (p0_g_Rowsv : Value) (p1_lv : Value) {r : Bool} (hF : S_spec_IsTwoEdges F p0_g_Size p0_g_Rows p1_l = some r) (w0 : World) (h0 : RdRow w0 p0_g_Rowsv (List.map (int i64) p0_g_Rows)) (h1 : RdRow w0 p1_lv (List.map (int i64) p1_l)) :
    Calls Try.prog 44 [(Value.agg #[(int i64 p0_g_Size), p0_g_Rowsv]), p1_lv].toArray w0 (retPost fun v w' => v = (Value.bool r) ∧ Mem Nob w0 w' []) := by
 have hM : Mem Nob w0 w0 [(false, rd p0_g_Rowsv (List.map (int i64) p0_g_Rows)), (false, rd p1_lv (List.map (int i64) p1_l))] := (Mem.rcons (Mem.rcons (Mem.nil w0) h1 (by simp)) h0 (by simp))
 refine enter2 Try.func44 rfl rfl rfl fun Q a hQr hQn hQp hS => ?_
 have hS : Sl 77 [(0, (Value.agg #[(int i64 p0_g_Size), p0_g_Rowsv])), (1, p1_lv)] a := hS
 unfold S_spec_IsTwoEdges at hF
 refine wp_seq_k fun K1 hK1 => ?_
 refine wp_region_lit ?_
 obtain ⟨b3, w, hr, hM⟩ := hM.boxE (ρ := a.eval) (dst := some 2) (ty := _) (pos := _) (af := _) (gd := _) (x := .tmp 0) (T := 28) [(int i64 p0_g_Size), p0_g_Rowsv] (hS.ev rfl) rfl
 refine st_val hS rfl rfl (by decide) hr fun a hS => ?_
 refine st_val hS rfl rfl (by decide) (rv_assign (hS.ev rfl)) fun a hS => ?_
 refine wpList_nil ?_
 refine hK1 _ _ ?_
 refine wp_seq_k fun K4 hK4 => ?_
 have hJ1 : ∀ (p24 : Bool) (a : Act) (w : World), Sl 77 [(4, (Value.bool p24))] a → Mem Nob w0 w [] → S_spec_IsTwoEdges_j1 F p24 = some r → K4 a w := by
  intro p24 a w hS hM hF
  unfold S_spec_IsTwoEdges_j1 at hF
  refine hK4 _ _ ?_
  refine wp_ret ?_
  cases hF
  exact hQr _ _ (r_1 hS rfl rfl ⟨rfl, hM.pick [] (by decide) rfl⟩)
 refine an_startB 73 Nob ty_mixed (by kernel_rfl) fun w hf => ?_
 have hM := hM.fra hf
 have hB := hM
 have hM := hB.reg0
 refine tkB hS 0 1 (by as_aux_lemma => kernel_rfl) rfl rfl rfl hQp rfl (fun w' hC' => (rv_move (hS.ev rfl))) hM.fr fun a hS => ?_
 refine tkB hS 1 3 (by as_aux_lemma => kernel_rfl) rfl rfl rfl hQp rfl (fun w' hC' => (rv_len_rowM Try.underlying22 (hS.ev rfl) (hM.get 2 rfl))) hM.fr fun a hS => ?_
 refine tkB hS 2 7 (by as_aux_lemma => kernel_rfl) rfl rfl rfl hQp rfl (fun w' hC' => (rv_eql (hS.ev rfl) (hS.ev rfl))) hM.fr fun a hS => ?_
 refine tkB hS 3 15 (by as_aux_lemma => kernel_rfl) rfl rfl rfl hQp rfl (fun w' hC' => (rv_move (hS.ev rfl))) hM.fr fun a hS => ?_
 rcases ite_some hF with ⟨hc, hF⟩ | ⟨hc, hF⟩
 ·have hS := hS.setb (t := 8) rfl hc
  refine tkB hS 4 31 (by as_aux_lemma => kernel_rfl) rfl rfl rfl hQp rfl (fun w' hC' => (rv_load_agg (hS.ev rfl) ty_ag_28 ((hB.fra hC').get 0 rfl) ty_sz_28)) hM.fr fun a hS => ?_
  refine tkB hS 5 63 (by as_aux_lemma => kernel_rfl) rfl rfl rfl hQp rfl (fun w' hC' => (rv_move (hS.ev rfl))) hM.fr fun a hS => ?_
  obtain ⟨r25, hr, hF⟩ := bind_some hF
  refine an_oneB hS (i := 6) 127 (by as_aux_lemma => kernel_rfl) rfl (by as_aux_lemma => kernel_rfl) rfl ?_
  refine wp_call hS rfl rfl (by decide) fn_ok_93 rfl (c_spec_l4Distinct F p0_g_Size p0_g_Rows p1_l p0_g_Rowsv p1_lv hr _ (hM.get 1 rfl) (hM.get 2 rfl)) fun v w a hK hS => ?_
  obtain ⟨rfl, hN⟩ := hK
  have hM := hM.fra hN.fr
  refine ⟨hM.fr, ?_⟩
  refine tkB hS 7 255 (by as_aux_lemma => kernel_rfl) rfl rfl rfl hQp rfl (fun w' hC' => (rv_pick_t (hS.ev rfl) (hS.ev rfl))) hM.fr fun a hS => ?_
  refine tkB hS 8 511 (by as_aux_lemma => kernel_rfl) rfl rfl rfl hQp rfl (fun w' hC' => (rv_move (hS.ev rfl))) hM.fr fun a hS => ?_
  rcases ite_some hF with ⟨hc, hF⟩ | ⟨hc, hF⟩
  ·have hS := hS.setb (t := 13) rfl hc
   refine tkB hS 9 1023 (by as_aux_lemma => kernel_rfl) rfl rfl rfl hQp rfl (fun w' hC' => (rv_load_agg (hS.ev rfl) ty_ag_28 ((hB.fra hC').get 0 rfl) ty_sz_28)) hM.fr fun a hS => ?_
   refine tkB hS 10 2047 (by as_aux_lemma => kernel_rfl) rfl rfl rfl hQp rfl (fun w' hC' => (rv_move (hS.ev rfl))) hM.fr fun a hS => ?_
   obtain ⟨x26, hx, hF⟩ := bind_some hF
   obtain ⟨hi0, hi1, hex26⟩ := idxL_some hx
   refine tkB hS 11 4095 (by as_aux_lemma => kernel_rfl) rfl rfl rfl hQp rfl (fun w' hC' => (rv_indexAddr Try.underlying22 ty_el_3 (hS.ev rfl) (hS.ev rfl) (hM.get 2 rfl) hi0 (map_len hi1))) hM.fr fun a hS => ?_
   refine tkB hS 12 8191 (by as_aux_lemma => kernel_rfl) rfl rfl rfl hQp rfl (fun w' hC' => (rv_load_el (hS.ev rfl) ty_ag_3 ((hB.fra hC').get 2 rfl) (mget hex26))) hM.fr fun a hS => ?_
   refine tkB hS 13 16383 (by as_aux_lemma => kernel_rfl) rfl rfl rfl hQp rfl (fun w' hC' => (rv_move (hS.ev rfl))) hM.fr fun a hS => ?_
   obtain ⟨x27, hx, hF⟩ := bind_some hF
   obtain ⟨hi0, hi1, hex27⟩ := idxL_some hx
   refine tkB hS 14 32767 (by as_aux_lemma => kernel_rfl) rfl rfl rfl hQp rfl (fun w' hC' => (rv_indexAddr Try.underlying22 ty_el_3 (hS.ev rfl) (hS.ev rfl) (hM.get 2 rfl) hi0 (map_len hi1))) hM.fr fun a hS => ?_
   refine tkB hS 15 65535 (by as_aux_lemma => kernel_rfl) rfl rfl rfl hQp rfl (fun w' hC' => (rv_load_el (hS.ev rfl) ty_ag_3 ((hB.fra hC').get 2 rfl) (mget hex27))) hM.fr fun a hS => ?_
   obtain ⟨r28, hr, hF⟩ := bind_some hF
   refine an_oneB hS (i := 16) 131071 (by as_aux_lemma => kernel_rfl) rfl (by as_aux_lemma => kernel_rfl) rfl ?_
   refine wp_call hS rfl rfl (by decide) fn_ok_94 rfl (c_spec_l2Edge F p0_g_Size p0_g_Rows x26 x27 p0_g_Rowsv hr _ (hM.get 1 rfl)) fun v w a hK hS => ?_
   obtain ⟨rfl, hN⟩ := hK
   have hM := hM.fra hN.fr
   refine ⟨hM.fr, ?_⟩
   refine tkB hS 17 262143 (by as_aux_lemma => kernel_rfl) rfl rfl rfl hQp rfl (fun w' hC' => (rv_pick_t (hS.ev rfl) (hS.ev rfl))) hM.fr fun a hS => ?_
   refine tkB hS 18 524287 (by as_aux_lemma => kernel_rfl) rfl rfl rfl hQp rfl (fun w' hC' => (rv_move (hS.ev rfl))) hM.fr fun a hS => ?_
   rcases ite_some hF with ⟨hc, hF⟩ | ⟨hc, hF⟩
   ·have hS := hS.setb (t := 23) rfl hc
    refine tkB hS 19 1048575 (by as_aux_lemma => kernel_rfl) rfl rfl rfl hQp rfl (fun w' hC' => (rv_load_agg (hS.ev rfl) ty_ag_28 ((hB.fra hC').get 0 rfl) ty_sz_28)) hM.fr fun a hS => ?_
    refine tkB hS 20 2097151 (by as_aux_lemma => kernel_rfl) rfl rfl rfl hQp rfl (fun w' hC' => (rv_move (hS.ev rfl))) hM.fr fun a hS => ?_
    obtain ⟨x29, hx, hF⟩ := bind_some hF
    obtain ⟨hi0, hi1, hex29⟩ := idxL_some hx
    refine tkB hS 21 4194303 (by as_aux_lemma => kernel_rfl) rfl rfl rfl hQp rfl (fun w' hC' => (rv_indexAddr Try.underlying22 ty_el_3 (hS.ev rfl) (hS.ev rfl) (hM.get 2 rfl) hi0 (map_len hi1))) hM.fr fun a hS => ?_
    refine tkB hS 22 8388607 (by as_aux_lemma => kernel_rfl) rfl rfl rfl hQp rfl (fun w' hC' => (rv_load_el (hS.ev rfl) ty_ag_3 ((hB.fra hC').get 2 rfl) (mget hex29))) hM.fr fun a hS => ?_
    refine tkB hS 23 16777215 (by as_aux_lemma => kernel_rfl) rfl rfl rfl hQp rfl (fun w' hC' => (rv_move (hS.ev rfl))) hM.fr fun a hS => ?_
    obtain ⟨x30, hx, hF⟩ := bind_some hF
    obtain ⟨hi0, hi1, hex30⟩ := idxL_some hx
    refine tkB hS 24 33554431 (by as_aux_lemma => kernel_rfl) rfl rfl rfl hQp rfl (fun w' hC' => (rv_indexAddr Try.underlying22 ty_el_3 (hS.ev rfl) (hS.ev rfl) (hM.get 2 rfl) hi0 (map_len hi1))) hM.fr fun a hS => ?_
    refine tkB hS 25 67108863 (by as_aux_lemma => kernel_rfl) rfl rfl rfl hQp rfl (fun w' hC' => (rv_load_el (hS.ev rfl) ty_ag_3 ((hB.fra hC').get 2 rfl) (mget hex30))) hM.fr fun a hS => ?_
    obtain ⟨r31, hr, hF⟩ := bind_some hF
    refine an_oneB hS (i := 26) 134217727 (by as_aux_lemma => kernel_rfl) rfl (by as_aux_lemma => kernel_rfl) rfl ?_
    refine wp_call hS rfl rfl (by decide) fn_ok_94 rfl (c_spec_l2Edge F p0_g_Size p0_g_Rows x29 x30 p0_g_Rowsv hr _ (hM.get 1 rfl)) fun v w a hK hS => ?_
    obtain ⟨rfl, hN⟩ := hK
    have hM := hM.fra hN.fr
    refine ⟨hM.fr, ?_⟩
    refine tkB hS 27 268435455 (by as_aux_lemma => kernel_rfl) rfl rfl rfl hQp rfl (fun w' hC' => (rv_pick_t (hS.ev rfl) (hS.ev rfl))) hM.fr fun a hS => ?_
    refine tkB hS 28 536870911 (by as_aux_lemma => kernel_rfl) rfl rfl rfl hQp rfl (fun w' hC' => (rv_move (hS.ev rfl))) hM.fr fun a hS => ?_
    rcases ite_some hF with ⟨hc, hF⟩ | ⟨hc, hF⟩
    ·have hS := hS.setb (t := 33) rfl hc
     refine tkB hS 29 1073741823 (by as_aux_lemma => kernel_rfl) rfl rfl rfl hQp rfl (fun w' hC' => (rv_load_agg (hS.ev rfl) ty_ag_28 ((hB.fra hC').get 0 rfl) ty_sz_28)) hM.fr fun a hS => ?_
     refine tkB hS 30 2147483647 (by as_aux_lemma => kernel_rfl) rfl rfl rfl hQp rfl (fun w' hC' => (rv_move (hS.ev rfl))) hM.fr fun a hS => ?_
     obtain ⟨x32, hx, hF⟩ := bind_some hF
     obtain ⟨hi0, hi1, hex32⟩ := idxL_some hx
     refine tkB hS 31 4294967295 (by as_aux_lemma => kernel_rfl) rfl rfl rfl hQp rfl (fun w' hC' => (rv_indexAddr Try.underlying22 ty_el_3 (hS.ev rfl) (hS.ev rfl) (hM.get 2 rfl) hi0 (map_len hi1))) hM.fr fun a hS => ?_
     refine tkB hS 32 8589934591 (by as_aux_lemma => kernel_rfl) rfl rfl rfl hQp rfl (fun w' hC' => (rv_load_el (hS.ev rfl) ty_ag_3 ((hB.fra hC').get 2 rfl) (mget hex32))) hM.fr fun a hS => ?_
     refine tkB hS 33 17179869183 (by as_aux_lemma => kernel_rfl) rfl rfl rfl hQp rfl (fun w' hC' => (rv_move (hS.ev rfl))) hM.fr fun a hS => ?_
     obtain ⟨x33, hx, hF⟩ := bind_some hF
     obtain ⟨hi0, hi1, hex33⟩ := idxL_some hx
     refine tkB hS 34 34359738367 (by as_aux_lemma => kernel_rfl) rfl rfl rfl hQp rfl (fun w' hC' => (rv_indexAddr Try.underlying22 ty_el_3 (hS.ev rfl) (hS.ev rfl) (hM.get 2 rfl) hi0 (map_len hi1))) hM.fr fun a hS => ?_
     refine tkB hS 35 68719476735 (by as_aux_lemma => kernel_rfl) rfl rfl rfl hQp rfl (fun w' hC' => (rv_load_el (hS.ev rfl) ty_ag_3 ((hB.fra hC').get 2 rfl) (mget hex33))) hM.fr fun a hS => ?_
     obtain ⟨r34, hr, hF⟩ := bind_some hF
     refine an_oneB hS (i := 36) 137438953471 (by as_aux_lemma => kernel_rfl) rfl (by as_aux_lemma => kernel_rfl) rfl ?_
     refine wp_call hS rfl rfl (by decide) fn_ok_94 rfl (c_spec_l2Edge F p0_g_Size p0_g_Rows x32 x33 p0_g_Rowsv hr _ (hM.get 1 rfl)) fun v w a hK hS => ?_
     obtain ⟨rfl, hN⟩ := hK
     have hM := hM.fra hN.fr
     refine ⟨hM.fr, ?_⟩
     refine tkB hS 37 274877906943 (by as_aux_lemma => kernel_rfl) rfl rfl rfl hQp rfl (fun w' hC' => (rv_not (hS.ev rfl))) hM.fr fun a hS => ?_
     refine tkB hS 38 549755813887 (by as_aux_lemma => kernel_rfl) rfl rfl rfl hQp rfl (fun w' hC' => (rv_pick_t (hS.ev rfl) (hS.ev rfl))) hM.fr fun a hS => ?_
     refine tkB hS 39 1099511627775 (by as_aux_lemma => kernel_rfl) rfl rfl rfl hQp rfl (fun w' hC' => (rv_move (hS.ev rfl))) hM.fr fun a hS => ?_
     rcases ite_some hF with ⟨hc, hF⟩ | ⟨hc, hF⟩
     ·have hS := hS.setb (t := 44) rfl hc
      refine tkB hS 40 2199023255551 (by as_aux_lemma => kernel_rfl) rfl rfl rfl hQp rfl (fun w' hC' => (rv_load_agg (hS.ev rfl) ty_ag_28 ((hB.fra hC').get 0 rfl) ty_sz_28)) hM.fr fun a hS => ?_
      refine tkB hS 41 4398046511103 (by as_aux_lemma => kernel_rfl) rfl rfl rfl hQp rfl (fun w' hC' => (rv_move (hS.ev rfl))) hM.fr fun a hS => ?_
      obtain ⟨x35, hx, hF⟩ := bind_some hF
      obtain ⟨hi0, hi1, hex35⟩ := idxL_some hx
      refine tkB hS 42 8796093022207 (by as_aux_lemma => kernel_rfl) rfl rfl rfl hQp rfl (fun w' hC' => (rv_indexAddr Try.underlying22 ty_el_3 (hS.ev rfl) (hS.ev rfl) (hM.get 2 rfl) hi0 (map_len hi1))) hM.fr fun a hS => ?_
      refine tkB hS 43 17592186044415 (by as_aux_lemma => kernel_rfl) rfl rfl rfl hQp rfl (fun w' hC' => (rv_load_el (hS.ev rfl) ty_ag_3 ((hB.fra hC').get 2 rfl) (mget hex35))) hM.fr fun a hS => ?_
      refine tkB hS 44 35184372088831 (by as_aux_lemma => kernel_rfl) rfl rfl rfl hQp rfl (fun w' hC' => (rv_move (hS.ev rfl))) hM.fr fun a hS => ?_
      obtain ⟨x36, hx, hF⟩ := bind_some hF
      obtain ⟨hi0, hi1, hex36⟩ := idxL_some hx
      refine tkB hS 45 70368744177663 (by as_aux_lemma => kernel_rfl) rfl rfl rfl hQp rfl (fun w' hC' => (rv_indexAddr Try.underlying22 ty_el_3 (hS.ev rfl) (hS.ev rfl) (hM.get 2 rfl) hi0 (map_len hi1))) hM.fr fun a hS => ?_
      refine tkB hS 46 140737488355327 (by as_aux_lemma => kernel_rfl) rfl rfl rfl hQp rfl (fun w' hC' => (rv_load_el (hS.ev rfl) ty_ag_3 ((hB.fra hC').get 2 rfl) (mget hex36))) hM.fr fun a hS => ?_
      obtain ⟨r37, hr, hF⟩ := bind_some hF
      refine an_oneB hS (i := 47) 281474976710655 (by as_aux_lemma => kernel_rfl) rfl (by as_aux_lemma => kernel_rfl) rfl ?_
      refine wp_call hS rfl rfl (by decide) fn_ok_94 rfl (c_spec_l2Edge F p0_g_Size p0_g_Rows x35 x36 p0_g_Rowsv hr _ (hM.get 1 rfl)) fun v w a hK hS => ?_
      obtain ⟨rfl, hN⟩ := hK
      have hM := hM.fra hN.fr
      refine ⟨hM.fr, ?_⟩
      refine tkB hS 48 562949953421311 (by as_aux_lemma => kernel_rfl) rfl rfl rfl hQp rfl (fun w' hC' => (rv_not (hS.ev rfl))) hM.fr fun a hS => ?_
      refine tkB hS 49 1125899906842623 (by as_aux_lemma => kernel_rfl) rfl rfl rfl hQp rfl (fun w' hC' => (rv_pick_t (hS.ev rfl) (hS.ev rfl))) hM.fr fun a hS => ?_
      refine tkB hS 50 2251799813685247 (by as_aux_lemma => kernel_rfl) rfl rfl rfl hQp rfl (fun w' hC' => (rv_move (hS.ev rfl))) hM.fr fun a hS => ?_
      rcases ite_some hF with ⟨hc, hF⟩ | ⟨hc, hF⟩
      ·have hS := hS.setb (t := 55) rfl hc
       refine tkB hS 51 4503599627370495 (by as_aux_lemma => kernel_rfl) rfl rfl rfl hQp rfl (fun w' hC' => (rv_load_agg (hS.ev rfl) ty_ag_28 ((hB.fra hC').get 0 rfl) ty_sz_28)) hM.fr fun a hS => ?_
       refine tkB hS 52 9007199254740991 (by as_aux_lemma => kernel_rfl) rfl rfl rfl hQp rfl (fun w' hC' => (rv_move (hS.ev rfl))) hM.fr fun a hS => ?_
       obtain ⟨x38, hx, hF⟩ := bind_some hF
       obtain ⟨hi0, hi1, hex38⟩ := idxL_some hx
       refine tkB hS 53 18014398509481983 (by as_aux_lemma => kernel_rfl) rfl rfl rfl hQp rfl (fun w' hC' => (rv_indexAddr Try.underlying22 ty_el_3 (hS.ev rfl) (hS.ev rfl) (hM.get 2 rfl) hi0 (map_len hi1))) hM.fr fun a hS => ?_
       refine tkB hS 54 36028797018963967 (by as_aux_lemma => kernel_rfl) rfl rfl rfl hQp rfl (fun w' hC' => (rv_load_el (hS.ev rfl) ty_ag_3 ((hB.fra hC').get 2 rfl) (mget hex38))) hM.fr fun a hS => ?_
       refine tkB hS 55 72057594037927935 (by as_aux_lemma => kernel_rfl) rfl rfl rfl hQp rfl (fun w' hC' => (rv_move (hS.ev rfl))) hM.fr fun a hS => ?_
       obtain ⟨x39, hx, hF⟩ := bind_some hF
       obtain ⟨hi0, hi1, hex39⟩ := idxL_some hx
       refine tkB hS 56 144115188075855871 (by as_aux_lemma => kernel_rfl) rfl rfl rfl hQp rfl (fun w' hC' => (rv_indexAddr Try.underlying22 ty_el_3 (hS.ev rfl) (hS.ev rfl) (hM.get 2 rfl) hi0 (map_len hi1))) hM.fr fun a hS => ?_
       refine tkB hS 57 288230376151711743 (by as_aux_lemma => kernel_rfl) rfl rfl rfl hQp rfl (fun w' hC' => (rv_load_el (hS.ev rfl) ty_ag_3 ((hB.fra hC').get 2 rfl) (mget hex39))) hM.fr fun a hS => ?_
       obtain ⟨r40, hr, hF⟩ := bind_some hF
       refine an_oneB hS (i := 58) 576460752303423487 (by as_aux_lemma => kernel_rfl) rfl (by as_aux_lemma => kernel_rfl) rfl ?_
       refine wp_call hS rfl rfl (by decide) fn_ok_94 rfl (c_spec_l2Edge F p0_g_Size p0_g_Rows x38 x39 p0_g_Rowsv hr _ (hM.get 1 rfl)) fun v w a hK hS => ?_
       obtain ⟨rfl, hN⟩ := hK
       have hM := hM.fra hN.fr
       refine ⟨hM.fr, ?_⟩
       refine tkB hS 59 1152921504606846975 (by as_aux_lemma => kernel_rfl) rfl rfl rfl hQp rfl (fun w' hC' => (rv_not (hS.ev rfl))) hM.fr fun a hS => ?_
       refine tkB hS 60 2305843009213693951 (by as_aux_lemma => kernel_rfl) rfl rfl rfl hQp rfl (fun w' hC' => (rv_pick_t (hS.ev rfl) (hS.ev rfl))) hM.fr fun a hS => ?_
       refine tkB hS 61 4611686018427387903 (by as_aux_lemma => kernel_rfl) rfl rfl rfl hQp rfl (fun w' hC' => (rv_move (hS.ev rfl))) hM.fr fun a hS => ?_
       rcases ite_some hF with ⟨hc, hF⟩ | ⟨hc, hF⟩
       ·have hS := hS.setb (t := 66) rfl hc
        refine tkB hS 62 9223372036854775807 (by as_aux_lemma => kernel_rfl) rfl rfl rfl hQp rfl (fun w' hC' => (rv_load_agg (hS.ev rfl) ty_ag_28 ((hB.fra hC').get 0 rfl) ty_sz_28)) hM.fr fun a hS => ?_
        refine tkB hS 63 18446744073709551615 (by as_aux_lemma => kernel_rfl) rfl rfl rfl hQp rfl (fun w' hC' => (rv_move (hS.ev rfl))) hM.fr fun a hS => ?_
        obtain ⟨x41, hx, hF⟩ := bind_some hF
        obtain ⟨hi0, hi1, hex41⟩ := idxL_some hx
        refine tkB hS 64 36893488147419103231 (by as_aux_lemma => kernel_rfl) rfl rfl rfl hQp rfl (fun w' hC' => (rv_indexAddr Try.underlying22 ty_el_3 (hS.ev rfl) (hS.ev rfl) (hM.get 2 rfl) hi0 (map_len hi1))) hM.fr fun a hS => ?_
        refine tkB hS 65 73786976294838206463 (by as_aux_lemma => kernel_rfl) rfl rfl rfl hQp rfl (fun w' hC' => (rv_load_el (hS.ev rfl) ty_ag_3 ((hB.fra hC').get 2 rfl) (mget hex41))) hM.fr fun a hS => ?_
        refine tkB hS 66 147573952589676412927 (by as_aux_lemma => kernel_rfl) rfl rfl rfl hQp rfl (fun w' hC' => (rv_move (hS.ev rfl))) hM.fr fun a hS => ?_
        obtain ⟨x42, hx, hF⟩ := bind_some hF
        obtain ⟨hi0, hi1, hex42⟩ := idxL_some hx
        refine tkB hS 67 295147905179352825855 (by as_aux_lemma => kernel_rfl) rfl rfl rfl hQp rfl (fun w' hC' => (rv_indexAddr Try.underlying22 ty_el_3 (hS.ev rfl) (hS.ev rfl) (hM.get 2 rfl) hi0 (map_len hi1))) hM.fr fun a hS => ?_
        refine tkB hS 68 590295810358705651711 (by as_aux_lemma => kernel_rfl) rfl rfl rfl hQp rfl (fun w' hC' => (rv_load_el (hS.ev rfl) ty_ag_3 ((hB.fra hC').get 2 rfl) (mget hex42))) hM.fr fun a hS => ?_
        obtain ⟨r43, hr, hF⟩ := bind_some hF
        refine an_oneB hS (i := 69) 1180591620717411303423 (by as_aux_lemma => kernel_rfl) rfl (by as_aux_lemma => kernel_rfl) rfl ?_
        refine wp_call hS rfl rfl (by decide) fn_ok_94 rfl (c_spec_l2Edge F p0_g_Size p0_g_Rows x41 x42 p0_g_Rowsv hr _ (hM.get 1 rfl)) fun v w a hK hS => ?_
        obtain ⟨rfl, hN⟩ := hK
        have hM := hM.fra hN.fr
        refine ⟨hM.fr, ?_⟩
        refine tkB hS 70 2361183241434822606847 (by as_aux_lemma => kernel_rfl) rfl rfl rfl hQp rfl (fun w' hC' => (rv_not (hS.ev rfl))) hM.fr fun a hS => ?_
        refine tkB hS 71 4722366482869645213695 (by as_aux_lemma => kernel_rfl) rfl rfl rfl hQp rfl (fun w' hC' => (rv_pick_t (hS.ev rfl) (hS.ev rfl))) hM.fr fun a hS => ?_
        refine tkB hS 72 9444732965739290427391 (by as_aux_lemma => kernel_rfl) rfl rfl rfl hQp rfl (fun w' hC' => (rv_assign (hS.ev rfl))) hM.fr fun a hS => ?_
        refine an_done (by as_aux_lemma => kernel_rfl) ?_
        have hN := hM.pick [] (by decide) rfl
        have hM := Mem.callo0 hB hN rfl
        exact hJ1 (!r43) _ _ (hS.sub (sub_cons rfl sub_nil)) (hM.pick [] (by decide) rfl) hF
       ·have hS := hS.setb (t := 66) rfl hc
        refine skB hS [62, 63, 64, 65, 66, 67, 68, 69, 70] [67, 68, 69, 70, 71, 72, 73, 74, 75] 2361183241434822606847 2 rfl (by as_aux_lemma => kernel_rfl) hQp hM.fr fun a hS => ?_
        refine tkB hS 71 4722366482869645213695 (by as_aux_lemma => kernel_rfl) rfl rfl rfl hQp rfl (fun w' hC' => (rv_pick_f (hS.ev rfl) (hS.ev rfl))) hM.fr fun a hS => ?_
        refine tkB hS 72 9444732965739290427391 (by as_aux_lemma => kernel_rfl) rfl rfl rfl hQp rfl (fun w' hC' => (rv_assign (hS.ev rfl))) hM.fr fun a hS => ?_
        refine an_done (by as_aux_lemma => kernel_rfl) ?_
        have hN := hM.pick [] (by decide) rfl
        have hM := Mem.callo0 hB hN rfl
        exact hJ1 false _ _ (hS.sub (sub_cons rfl sub_nil)) (hM.pick [] (by decide) rfl) hF
      ·have hS := hS.setb (t := 55) rfl hc
       refine skB hS [51, 52, 53, 54, 55, 56, 57, 58, 59] [56, 57, 58, 59, 60, 61, 62, 63, 64] 1152921504606846975 13 rfl (by as_aux_lemma => kernel_rfl) hQp hM.fr fun a hS => ?_
       refine tkB hS 60 2305843009213693951 (by as_aux_lemma => kernel_rfl) rfl rfl rfl hQp rfl (fun w' hC' => (rv_pick_f (hS.ev rfl) (hS.ev rfl))) hM.fr fun a hS => ?_
       refine tkB hS 61 4611686018427387903 (by as_aux_lemma => kernel_rfl) rfl rfl rfl hQp rfl (fun w' hC' => (rv_move (hS.ev rfl))) hM.fr fun a hS => ?_
       refine skB hS [62, 63, 64, 65, 66, 67, 68, 69, 70] [67, 68, 69, 70, 71, 72, 73, 74, 75] 2361183241434822606847 2 rfl (by as_aux_lemma => kernel_rfl) hQp hM.fr fun a hS => ?_
       refine tkB hS 71 4722366482869645213695 (by as_aux_lemma => kernel_rfl) rfl rfl rfl hQp rfl (fun w' hC' => (rv_pick_f (hS.ev rfl) (hS.ev rfl))) hM.fr fun a hS => ?_
       refine tkB hS 72 9444732965739290427391 (by as_aux_lemma => kernel_rfl) rfl rfl rfl hQp rfl (fun w' hC' => (rv_assign (hS.ev rfl))) hM.fr fun a hS => ?_
       refine an_done (by as_aux_lemma => kernel_rfl) ?_
       have hN := hM.pick [] (by decide) rfl
       have hM := Mem.callo0 hB hN rfl
       exact hJ1 false _ _ (hS.sub (sub_cons rfl sub_nil)) (hM.pick [] (by decide) rfl) hF
     ·have hS := hS.setb (t := 44) rfl hc
      refine skB hS [40, 41, 42, 43, 44, 45, 46, 47, 48] [45, 46, 47, 48, 49, 50, 51, 52, 53] 562949953421311 24 rfl (by as_aux_lemma => kernel_rfl) hQp hM.fr fun a hS => ?_
      refine tkB hS 49 1125899906842623 (by as_aux_lemma => kernel_rfl) rfl rfl rfl hQp rfl (fun w' hC' => (rv_pick_f (hS.ev rfl) (hS.ev rfl))) hM.fr fun a hS => ?_
      refine tkB hS 50 2251799813685247 (by as_aux_lemma => kernel_rfl) rfl rfl rfl hQp rfl (fun w' hC' => (rv_move (hS.ev rfl))) hM.fr fun a hS => ?_
      refine skB hS [51, 52, 53, 54, 55, 56, 57, 58, 59] [56, 57, 58, 59, 60, 61, 62, 63, 64] 1152921504606846975 13 rfl (by as_aux_lemma => kernel_rfl) hQp hM.fr fun a hS => ?_
      refine tkB hS 60 2305843009213693951 (by as_aux_lemma => kernel_rfl) rfl rfl rfl hQp rfl (fun w' hC' => (rv_pick_f (hS.ev rfl) (hS.ev rfl))) hM.fr fun a hS => ?_
      refine tkB hS 61 4611686018427387903 (by as_aux_lemma => kernel_rfl) rfl rfl rfl hQp rfl (fun w' hC' => (rv_move (hS.ev rfl))) hM.fr fun a hS => ?_
      refine skB hS [62, 63, 64, 65, 66, 67, 68, 69, 70] [67, 68, 69, 70, 71, 72, 73, 74, 75] 2361183241434822606847 2 rfl (by as_aux_lemma => kernel_rfl) hQp hM.fr fun a hS => ?_
      refine tkB hS 71 4722366482869645213695 (by as_aux_lemma => kernel_rfl) rfl rfl rfl hQp rfl (fun w' hC' => (rv_pick_f (hS.ev rfl) (hS.ev rfl))) hM.fr fun a hS => ?_
      refine tkB hS 72 9444732965739290427391 (by as_aux_lemma => kernel_rfl) rfl rfl rfl hQp rfl (fun w' hC' => (rv_assign (hS.ev rfl))) hM.fr fun a hS => ?_
      refine an_done (by as_aux_lemma => kernel_rfl) ?_
      have hN := hM.pick [] (by decide) rfl
      have hM := Mem.callo0 hB hN rfl
      exact hJ1 false _ _ (hS.sub (sub_cons rfl sub_nil)) (hM.pick [] (by decide) rfl) hF
    ·have hS := hS.setb (t := 33) rfl hc
     refine skB hS [29, 30, 31, 32, 33, 34, 35, 36, 37] [34, 35, 36, 37, 38, 39, 40, 41, 42] 274877906943 35 rfl (by as_aux_lemma => kernel_rfl) hQp hM.fr fun a hS => ?_
     refine tkB hS 38 549755813887 (by as_aux_lemma => kernel_rfl) rfl rfl rfl hQp rfl (fun w' hC' => (rv_pick_f (hS.ev rfl) (hS.ev rfl))) hM.fr fun a hS => ?_
     refine tkB hS 39 1099511627775 (by as_aux_lemma => kernel_rfl) rfl rfl rfl hQp rfl (fun w' hC' => (rv_move (hS.ev rfl))) hM.fr fun a hS => ?_
     refine skB hS [40, 41, 42, 43, 44, 45, 46, 47, 48] [45, 46, 47, 48, 49, 50, 51, 52, 53] 562949953421311 24 rfl (by as_aux_lemma => kernel_rfl) hQp hM.fr fun a hS => ?_
     refine tkB hS 49 1125899906842623 (by as_aux_lemma => kernel_rfl) rfl rfl rfl hQp rfl (fun w' hC' => (rv_pick_f (hS.ev rfl) (hS.ev rfl))) hM.fr fun a hS => ?_
     refine tkB hS 50 2251799813685247 (by as_aux_lemma => kernel_rfl) rfl rfl rfl hQp rfl (fun w' hC' => (rv_move (hS.ev rfl))) hM.fr fun a hS => ?_
     refine skB hS [51, 52, 53, 54, 55, 56, 57, 58, 59] [56, 57, 58, 59, 60, 61, 62, 63, 64] 1152921504606846975 13 rfl (by as_aux_lemma => kernel_rfl) hQp hM.fr fun a hS => ?_
     refine tkB hS 60 2305843009213693951 (by as_aux_lemma => kernel_rfl) rfl rfl rfl hQp rfl (fun w' hC' => (rv_pick_f (hS.ev rfl) (hS.ev rfl))) hM.fr fun a hS => ?_
     refine tkB hS 61 4611686018427387903 (by as_aux_lemma => kernel_rfl) rfl rfl rfl hQp rfl (fun w' hC' => (rv_move (hS.ev rfl))) hM.fr fun a hS => ?_
     refine skB hS [62, 63, 64, 65, 66, 67, 68, 69, 70] [67, 68, 69, 70, 71, 72, 73, 74, 75] 2361183241434822606847 2 rfl (by as_aux_lemma => kernel_rfl) hQp hM.fr fun a hS => ?_
     refine tkB hS 71 4722366482869645213695 (by as_aux_lemma => kernel_rfl) rfl rfl rfl hQp rfl (fun w' hC' => (rv_pick_f (hS.ev rfl) (hS.ev rfl))) hM.fr fun a hS => ?_
     refine tkB hS 72 9444732965739290427391 (by as_aux_lemma => kernel_rfl) rfl rfl rfl hQp rfl (fun w' hC' => (rv_assign (hS.ev rfl))) hM.fr fun a hS => ?_
     refine an_done (by as_aux_lemma => kernel_rfl) ?_
     have hN := hM.pick [] (by decide) rfl
     have hM := Mem.callo0 hB hN rfl
     exact hJ1 false _ _ (hS.sub (sub_cons rfl sub_nil)) (hM.pick [] (by decide) rfl) hF
   ·have hS := hS.setb (t := 23) rfl hc
    refine skB hS [19, 20, 21, 22, 23, 24, 25, 26] [24, 25, 26, 27, 28, 29, 30, 31] 134217727 46 rfl (by as_aux_lemma => kernel_rfl) hQp hM.fr fun a hS => ?_
    refine tkB hS 27 268435455 (by as_aux_lemma => kernel_rfl) rfl rfl rfl hQp rfl (fun w' hC' => (rv_pick_f (hS.ev rfl) (hS.ev rfl))) hM.fr fun a hS => ?_
    refine tkB hS 28 536870911 (by as_aux_lemma => kernel_rfl) rfl rfl rfl hQp rfl (fun w' hC' => (rv_move (hS.ev rfl))) hM.fr fun a hS => ?_
    refine skB hS [29, 30, 31, 32, 33, 34, 35, 36, 37] [34, 35, 36, 37, 38, 39, 40, 41, 42] 274877906943 35 rfl (by as_aux_lemma => kernel_rfl) hQp hM.fr fun a hS => ?_
    refine tkB hS 38 549755813887 (by as_aux_lemma => kernel_rfl) rfl rfl rfl hQp rfl (fun w' hC' => (rv_pick_f (hS.ev rfl) (hS.ev rfl))) hM.fr fun a hS => ?_
    refine tkB hS 39 1099511627775 (by as_aux_lemma => kernel_rfl) rfl rfl rfl hQp rfl (fun w' hC' => (rv_move (hS.ev rfl))) hM.fr fun a hS => ?_
    refine skB hS [40, 41, 42, 43, 44, 45, 46, 47, 48] [45, 46, 47, 48, 49, 50, 51, 52, 53] 562949953421311 24 rfl (by as_aux_lemma => kernel_rfl) hQp hM.fr fun a hS => ?_
    refine tkB hS 49 1125899906842623 (by as_aux_lemma => kernel_rfl) rfl rfl rfl hQp rfl (fun w' hC' => (rv_pick_f (hS.ev rfl) (hS.ev rfl))) hM.fr fun a hS => ?_
    refine tkB hS 50 2251799813685247 (by as_aux_lemma => kernel_rfl) rfl rfl rfl hQp rfl (fun w' hC' => (rv_move (hS.ev rfl))) hM.fr fun a hS => ?_
    refine skB hS [51, 52, 53, 54, 55, 56, 57, 58, 59] [56, 57, 58, 59, 60, 61, 62, 63, 64] 1152921504606846975 13 rfl (by as_aux_lemma => kernel_rfl) hQp hM.fr fun a hS => ?_
    refine tkB hS 60 2305843009213693951 (by as_aux_lemma => kernel_rfl) rfl rfl rfl hQp rfl (fun w' hC' => (rv_pick_f (hS.ev rfl) (hS.ev rfl))) hM.fr fun a hS => ?_
    refine tkB hS 61 4611686018427387903 (by as_aux_lemma => kernel_rfl) rfl rfl rfl hQp rfl (fun w' hC' => (rv_move (hS.ev rfl))) hM.fr fun a hS => ?_
    refine skB hS [62, 63, 64, 65, 66, 67, 68, 69, 70] [67, 68, 69, 70, 71, 72, 73, 74, 75] 2361183241434822606847 2 rfl (by as_aux_lemma => kernel_rfl) hQp hM.fr fun a hS => ?_
    refine tkB hS 71 4722366482869645213695 (by as_aux_lemma => kernel_rfl) rfl rfl rfl hQp rfl (fun w' hC' => (rv_pick_f (hS.ev rfl) (hS.ev rfl))) hM.fr fun a hS => ?_
    refine tkB hS 72 9444732965739290427391 (by as_aux_lemma => kernel_rfl) rfl rfl rfl hQp rfl (fun w' hC' => (rv_assign (hS.ev rfl))) hM.fr fun a hS => ?_
    refine an_done (by as_aux_lemma => kernel_rfl) ?_
    have hN := hM.pick [] (by decide) rfl
    have hM := Mem.callo0 hB hN rfl
    exact hJ1 false _ _ (hS.sub (sub_cons rfl sub_nil)) (hM.pick [] (by decide) rfl) hF
  ·have hS := hS.setb (t := 13) rfl hc
   refine skB hS [9, 10, 11, 12, 13, 14, 15, 16] [14, 15, 16, 17, 18, 19, 20, 21] 131071 56 rfl (by as_aux_lemma => kernel_rfl) hQp hM.fr fun a hS => ?_
   refine tkB hS 17 262143 (by as_aux_lemma => kernel_rfl) rfl rfl rfl hQp rfl (fun w' hC' => (rv_pick_f (hS.ev rfl) (hS.ev rfl))) hM.fr fun a hS => ?_
   refine tkB hS 18 524287 (by as_aux_lemma => kernel_rfl) rfl rfl rfl hQp rfl (fun w' hC' => (rv_move (hS.ev rfl))) hM.fr fun a hS => ?_
   refine skB hS [19, 20, 21, 22, 23, 24, 25, 26] [24, 25, 26, 27, 28, 29, 30, 31] 134217727 46 rfl (by as_aux_lemma => kernel_rfl) hQp hM.fr fun a hS => ?_
   refine tkB hS 27 268435455 (by as_aux_lemma => kernel_rfl) rfl rfl rfl hQp rfl (fun w' hC' => (rv_pick_f (hS.ev rfl) (hS.ev rfl))) hM.fr fun a hS => ?_
   refine tkB hS 28 536870911 (by as_aux_lemma => kernel_rfl) rfl rfl rfl hQp rfl (fun w' hC' => (rv_move (hS.ev rfl))) hM.fr fun a hS => ?_
   refine skB hS [29, 30, 31, 32, 33, 34, 35, 36, 37] [34, 35, 36, 37, 38, 39, 40, 41, 42] 274877906943 35 rfl (by as_aux_lemma => kernel_rfl) hQp hM.fr fun a hS => ?_
   refine tkB hS 38 549755813887 (by as_aux_lemma => kernel_rfl) rfl rfl rfl hQp rfl (fun w' hC' => (rv_pick_f (hS.ev rfl) (hS.ev rfl))) hM.fr fun a hS => ?_
   refine tkB hS 39 1099511627775 (by as_aux_lemma => kernel_rfl) rfl rfl rfl hQp rfl (fun w' hC' => (rv_move (hS.ev rfl))) hM.fr fun a hS => ?_
   refine skB hS [40, 41, 42, 43, 44, 45, 46, 47, 48] [45, 46, 47, 48, 49, 50, 51, 52, 53] 562949953421311 24 rfl (by as_aux_lemma => kernel_rfl) hQp hM.fr fun a hS => ?_
   refine tkB hS 49 1125899906842623 (by as_aux_lemma => kernel_rfl) rfl rfl rfl hQp rfl (fun w' hC' => (rv_pick_f (hS.ev rfl) (hS.ev rfl))) hM.fr fun a hS => ?_
   refine tkB hS 50 2251799813685247 (by as_aux_lemma => kernel_rfl) rfl rfl rfl hQp rfl (fun w' hC' => (rv_move (hS.ev rfl))) hM.fr fun a hS => ?_
   refine skB hS [51, 52, 53, 54, 55, 56, 57, 58, 59] [56, 57, 58, 59, 60, 61, 62, 63, 64] 1152921504606846975 13 rfl (by as_aux_lemma => kernel_rfl) hQp hM.fr fun a hS => ?_
   refine tkB hS 60 2305843009213693951 (by as_aux_lemma => kernel_rfl) rfl rfl rfl hQp rfl (fun w' hC' => (rv_pick_f (hS.ev rfl) (hS.ev rfl))) hM.fr fun a hS => ?_
   refine tkB hS 61 4611686018427387903 (by as_aux_lemma => kernel_rfl) rfl rfl rfl hQp rfl (fun w' hC' => (rv_move (hS.ev rfl))) hM.fr fun a hS => ?_
   refine skB hS [62, 63, 64, 65, 66, 67, 68, 69, 70] [67, 68, 69, 70, 71, 72, 73, 74, 75] 2361183241434822606847 2 rfl (by as_aux_lemma => kernel_rfl) hQp hM.fr fun a hS => ?_
   refine tkB hS 71 4722366482869645213695 (by as_aux_lemma => kernel_rfl) rfl rfl rfl hQp rfl (fun w' hC' => (rv_pick_f (hS.ev rfl) (hS.ev rfl))) hM.fr fun a hS => ?_
   refine tkB hS 72 9444732965739290427391 (by as_aux_lemma => kernel_rfl) rfl rfl rfl hQp rfl (fun w' hC' => (rv_assign (hS.ev rfl))) hM.fr fun a hS => ?_
   refine an_done (by as_aux_lemma => kernel_rfl) ?_
   have hN := hM.pick [] (by decide) rfl
   have hM := Mem.callo0 hB hN rfl
   exact hJ1 false _ _ (hS.sub (sub_cons rfl sub_nil)) (hM.pick [] (by decide) rfl) hF
 ·have hS := hS.setb (t := 8) rfl hc
  refine skB hS [4, 5, 6] [9, 10, 11] 127 66 rfl (by as_aux_lemma => kernel_rfl) hQp hM.fr fun a hS => ?_
  refine tkB hS 7 255 (by as_aux_lemma => kernel_rfl) rfl rfl rfl hQp rfl (fun w' hC' => (rv_pick_f (hS.ev rfl) (hS.ev rfl))) hM.fr fun a hS => ?_
  refine tkB hS 8 511 (by as_aux_lemma => kernel_rfl) rfl rfl rfl hQp rfl (fun w' hC' => (rv_move (hS.ev rfl))) hM.fr fun a hS => ?_
  refine skB hS [9, 10, 11, 12, 13, 14, 15, 16] [14, 15, 16, 17, 18, 19, 20, 21] 131071 56 rfl (by as_aux_lemma => kernel_rfl) hQp hM.fr fun a hS => ?_
  refine tkB hS 17 262143 (by as_aux_lemma => kernel_rfl) rfl rfl rfl hQp rfl (fun w' hC' => (rv_pick_f (hS.ev rfl) (hS.ev rfl))) hM.fr fun a hS => ?_
  refine tkB hS 18 524287 (by as_aux_lemma => kernel_rfl) rfl rfl rfl hQp rfl (fun w' hC' => (rv_move (hS.ev rfl))) hM.fr fun a hS => ?_
  refine skB hS [19, 20, 21, 22, 23, 24, 25, 26] [24, 25, 26, 27, 28, 29, 30, 31] 134217727 46 rfl (by as_aux_lemma => kernel_rfl) hQp hM.fr fun a hS => ?_
  refine tkB hS 27 268435455 (by as_aux_lemma => kernel_rfl) rfl rfl rfl hQp rfl (fun w' hC' => (rv_pick_f (hS.ev rfl) (hS.ev rfl))) hM.fr fun a hS => ?_
  refine tkB hS 28 536870911 (by as_aux_lemma => kernel_rfl) rfl rfl rfl hQp rfl (fun w' hC' => (rv_move (hS.ev rfl))) hM.fr fun a hS => ?_
  refine skB hS [29, 30, 31, 32, 33, 34, 35, 36, 37] [34, 35, 36, 37, 38, 39, 40, 41, 42] 274877906943 35 rfl (by as_aux_lemma => kernel_rfl) hQp hM.fr fun a hS => ?_
  refine tkB hS 38 549755813887 (by as_aux_lemma => kernel_rfl) rfl rfl rfl hQp rfl (fun w' hC' => (rv_pick_f (hS.ev rfl) (hS.ev rfl))) hM.fr fun a hS => ?_
  refine tkB hS 39 1099511627775 (by as_aux_lemma => kernel_rfl) rfl rfl rfl hQp rfl (fun w' hC' => (rv_move (hS.ev rfl))) hM.fr fun a hS => ?_
  refine skB hS [40, 41, 42, 43, 44, 45, 46, 47, 48] [45, 46, 47, 48, 49, 50, 51, 52, 53] 562949953421311 24 rfl (by as_aux_lemma => kernel_rfl) hQp hM.fr fun a hS => ?_
  refine tkB hS 49 1125899906842623 (by as_aux_lemma => kernel_rfl) rfl rfl rfl hQp rfl (fun w' hC' => (rv_pick_f (hS.ev rfl) (hS.ev rfl))) hM.fr fun a hS => ?_
  refine tkB hS 50 2251799813685247 (by as_aux_lemma => kernel_rfl) rfl rfl rfl hQp rfl (fun w' hC' => (rv_move (hS.ev rfl))) hM.fr fun a hS => ?_
  refine skB hS [51, 52, 53, 54, 55, 56, 57, 58, 59] [56, 57, 58, 59, 60, 61, 62, 63, 64] 1152921504606846975 13 rfl (by as_aux_lemma => kernel_rfl) hQp hM.fr fun a hS => ?_
  refine tkB hS 60 2305843009213693951 (by as_aux_lemma => kernel_rfl) rfl rfl rfl hQp rfl (fun w' hC' => (rv_pick_f (hS.ev rfl) (hS.ev rfl))) hM.fr fun a hS => ?_
  refine tkB hS 61 4611686018427387903 (by as_aux_lemma => kernel_rfl) rfl rfl rfl hQp rfl (fun w' hC' => (rv_move (hS.ev rfl))) hM.fr fun a hS => ?_
  refine skB hS [62, 63, 64, 65, 66, 67, 68, 69, 70] [67, 68, 69, 70, 71, 72, 73, 74, 75] 2361183241434822606847 2 rfl (by as_aux_lemma => kernel_rfl) hQp hM.fr fun a hS => ?_
  refine tkB hS 71 4722366482869645213695 (by as_aux_lemma => kernel_rfl) rfl rfl rfl hQp rfl (fun w' hC' => (rv_pick_f (hS.ev rfl) (hS.ev rfl))) hM.fr fun a hS => ?_
  refine tkB hS 72 9444732965739290427391 (by as_aux_lemma => kernel_rfl) rfl rfl rfl hQp rfl (fun w' hC' => (rv_assign (hS.ev rfl))) hM.fr fun a hS => ?_
  refine an_done (by as_aux_lemma => kernel_rfl) ?_
  have hN := hM.pick [] (by decide) rfl
  have hM := Mem.callo0 hB hN rfl
  exact hJ1 false _ _ (hS.sub (sub_cons rfl sub_nil)) (hM.pick [] (by decide) rfl) hF


end Go.Proofs.Ytilfniehellmmaa
