/- Proved here: that each Go function does what its shallow function says -/
import Derived.Test.YtnlabnkgcncmlaaSh
import Derived.Test.YtnlabnkgcncmlaaTy
import Derived.Test.YtnlabnkgcncmlaaK9
import Derived.Test.YtnlabnkgcncmlaaW0
import Derived.Test.YtnlabnkgcncmlaaW1
namespace Go.Proofs.Ytnlabnkgcncmlaa
open Go Go.RowKit
set_option linter.unusedVariables false
set_option linter.unusedSimpArgs false
set_option maxRecDepth 100000
set_option maxHeartbeats 4000000

theorem c_spec_l3Fine (F : Nat) (p0_set : Int) {r : Bool} (hF : S_spec_l3Fine F p0_set = some r) (w0 : World) :
    Calls Try.prog 95 [(Value.int IntKind.i64 p0_set)].toArray w0 (retPost fun v w' => v = (Value.bool r) ∧ Mem Nob w0 w' []) := by
  have hM : Mem Nob w0 w0 [] := (Mem.nil w0)
  refine enter2 Try.func95 rfl rfl rfl fun Q a hQr hQn hQp hS => ?_
  have hS : Sl 5 [(0, (Value.int IntKind.i64 p0_set))] a := hS
  unfold S_spec_l3Fine at hF
  refine wp_seq_k fun K1 hK1 => ?_
  refine wp_region_lit ?_
  refine st_val hS rfl rfl (by decide) (rv_assign (hS.ev rfl)) fun a hS => ?_
  refine wpList_nil ?_
  refine hK1 _ _ ?_
  refine wp_seq_k fun K2 hK2 => ?_
  refine wp_region_lit ?_
  refine st_val hS rfl rfl (by decide) (rv_move (hS.ev rfl)) fun a hS => ?_
  obtain ⟨r4, hr, hF⟩ := bind_some hF
  refine st_wp hS rfl (wp_call hS rfl rfl (by decide) fn_ok_89 rfl (c_spec_l1In F p0_set 0 127 hr _) fun v w a hK hS => ?_)
  obtain ⟨rfl, hN⟩ := hK
  have hM := hM.fra hN.fr
  refine st_val hS rfl rfl (by decide) (rv_assign (hS.ev rfl)) fun a hS => ?_
  refine wpList_nil ?_
  refine hK2 _ _ ?_
  refine wp_ret ?_
  cases hF
  exact hQr _ _ (r_1 hS rfl rfl ⟨rfl, hM.pick [] (by decide) rfl⟩)


theorem c_spec_ListOf (F : Nat) (p0_set : Int) {r : (List (Int))} (hF : S_spec_ListOf F p0_set = some r) (w0 : World) :
    Calls Try.prog 67 [(Value.int IntKind.i64 p0_set)].toArray w0 (retPost fun v w' => Mem Nob w0 w' [(true, ow 3 v (List.map (Value.int IntKind.i64) r))]) := by
  have hM : Mem Nob w0 w0 [] := (Mem.nil w0)
  refine enter2 Try.func67 rfl rfl rfl fun Q a hQr hQn hQp hS => ?_
  have hS : Sl 24 [(0, (Value.int IntKind.i64 p0_set))] a := hS
  unfold S_spec_ListOf at hF
  refine wp_seq_k fun K1 hK1 => ?_
  refine wp_region_lit ?_
  refine st_val hS rfl rfl (by decide) (rv_assign (hS.ev rfl)) fun a hS => ?_
  refine wpList_nil ?_
  refine hK1 _ _ ?_
  refine wp_seq_k fun K2 hK2 => ?_
  refine wp_region_lit ?_
  obtain ⟨v4, w, hr, hM⟩ := Mem.litE (f := (Value.int IntKind.i64)) (dst := some 5) (ty := _) (pos := _) (af := _) (gd := _) (ps := []) ([] : List (Int)) i64_one hM hS Try.underlying22 ty_el_3 rfl rfl rfl rfl
  refine st_val hS rfl rfl (by decide) hr fun a hS => ?_
  refine st_val hS rfl rfl (by decide) (rv_assign (hS.ev rfl)) fun a hS => ?_
  refine wpList_nil ?_
  refine hK2 _ _ ?_
  refine wp_seq_k fun K5 hK5 => ?_
  have hJ1 : ∀ (l47 : List Int) (v46 : Value) (a : Act) (w : World), Sl 24 [(3, v46)] a → Mem Nob w0 w [(true, ow 3 v46 (List.map (Value.int IntKind.i64) l47))] → S_spec_ListOf_j1 F l47 = some r → K5 a w := by
    intro l47 v46 a w hS hM hF
    unfold S_spec_ListOf_j1 at hF
    refine hK5 _ _ ?_
    refine wp_seq_k fun K48 hK48 => ?_
    refine wp_region_lit ?_
    refine st_val hS rfl rfl (by decide) (rv_move (hS.ev rfl)) fun a hS => ?_
    refine st_val hS rfl rfl (by decide) (rv_assign (hS.ev rfl)) fun a hS => ?_
    refine wpList_nil ?_
    refine hK48 _ _ ?_
    refine wp_ret ?_
    cases hF
    exact hQr _ _ (r_1 hS rfl rfl (hM.pick [0] (by decide) rfl))
  refine wp_seq_k fun K49 hK49 => ?_
  refine wp_region_lit ?_
  refine st_val hS rfl rfl (by decide) (rv_assign (hS.ev rfl)) fun a hS => ?_
  refine wpList_nil ?_
  refine hK49 _ _ ?_
  refine wp_block ?_
  obtain ⟨lb2, hl2, hF2⟩ := bind_some hF
  refine wp_loop_sh (fun s => S_spec_ListOf_l2 F p0_set s.1 s.2) (fun s a w => ∃ (v50 : Value), Sl 24 [(0, (Value.int IntKind.i64 p0_set)), (3, v50), (4, (Value.int IntKind.i64 s.2))] a ∧ Mem Nob w0 w [(true, ow 3 v50 (List.map (Value.int IntKind.i64) s.1))]) hl2 ⟨v4, (hS.sub (sub_cons rfl (sub_cons rfl (sub_cons rfl sub_nil)))), (hM.pick [0] (by decide) rfl)⟩ ?_
  rintro K2 ⟨l51, x52⟩ a w res2 ⟨v50, hS, hM⟩ hF hN2 hX2
  have hF : S_spec_ListOf_l2 F p0_set l51 x52 = some res2 := hF
  have hS : Sl 24 [(0, (Value.int IntKind.i64 p0_set)), (3, v50), (4, (Value.int IntKind.i64 x52))] a := hS
  have hM : Mem Nob w0 w [(true, ow 3 v50 (List.map (Value.int IntKind.i64) l51))] := hM
  unfold S_spec_ListOf_l2 at hF
  refine wp_seq_k fun K71 hK71 => ?_
  refine wp_seq_k fun K76 hK76 => ?_
  have hJ3 : ∀ (p78 : Bool) (a : Act) (w : World), Sl 24 [(0, (Value.int IntKind.i64 p0_set)), (3, v50), (4, (Value.int IntKind.i64 x52)), (11, (Value.bool p78))] a → Mem Nob w0 w [(true, ow 3 v50 (List.map (Value.int IntKind.i64) l51))] → S_spec_ListOf_j3 F p0_set l51 x52 p78 = some res2 → K76 a w := by
    intro p78 a w hS hM hF
    unfold S_spec_ListOf_j3 at hF
    refine hK76 _ _ ?_
    rcases ite_some hF with ⟨hc, hF⟩ | ⟨hc, hF⟩
    · refine cond_t hS rfl hc ?_
      refine wp_skip ?_
      refine hK71 _ _ ?_
      refine wp_seq_k fun K79 hK79 => ?_
      have hJ4 : ∀ (l84 : List Int) (v83 : Value) (a : Act) (w : World), Sl 24 [(0, (Value.int IntKind.i64 p0_set)), (3, v83), (4, (Value.int IntKind.i64 x52))] a → Mem Nob w0 w [(true, ow 3 v83 (List.map (Value.int IntKind.i64) l84))] → S_spec_ListOf_j4 F x52 l84 = some res2 → K79 a w := by
        intro l84 v83 a w hS hM hF
        unfold S_spec_ListOf_j4 at hF
        refine hK79 _ _ ?_
        refine wp_region_lit ?_
        refine st_val hS rfl rfl (by decide) (rv_move (hS.ev rfl)) fun a hS => ?_
        refine st_val hS rfl rfl (by decide) (rv_add (hS.ev rfl) (hS.ev rfl)) fun a hS => ?_
        refine st_val hS rfl rfl (by decide) (rv_assign (hS.ev rfl)) fun a hS => ?_
        refine wpList_nil ?_
        cases hF
        exact hN2 _ _ _ rfl ⟨v83, (hS.sub (sub_cons rfl (sub_cons rfl (sub_cons rfl sub_nil)))), (hM.pick [0] (by decide) rfl)⟩
      refine wp_block ?_
      refine wp_seq_k fun K85 hK85 => ?_
      refine wp_region_lit ?_
      refine st_val hS rfl rfl (by decide) (rv_move (hS.ev rfl)) fun a hS => ?_
      refine st_val hS rfl rfl (by decide) (rv_move (hS.ev rfl)) fun a hS => ?_
      obtain ⟨_, hx, hF⟩ := bind_some hF
      have hi0 := nnO_some hx
      refine st_val hS rfl rfl (by decide) (rv_shr (hS.ev rfl) (hS.ev rfl) hi0) fun a hS => ?_
      refine st_val hS rfl rfl (by decide) (rv_and (hS.ev rfl) (hS.ev rfl)) fun a hS => ?_
      refine st_val hS rfl rfl (by decide) (rv_eql (hS.ev rfl) (hS.ev rfl)) fun a hS => ?_
      refine wpList_nil ?_
      refine hK85 _ _ ?_
      rcases ite_some hF with ⟨hc, hF⟩ | ⟨hc, hF⟩
      · refine cond_t hS rfl hc ?_
        refine wp_region_lit ?_
        refine st_val hS rfl rfl (by decide) (rv_move (hS.ev rfl)) fun a hS => ?_
        refine st_val hS rfl rfl (by decide) (rv_move (hS.ev rfl)) fun a hS => ?_
        obtain ⟨v86, w, hr, hM⟩ := Mem.litE (f := (Value.int IntKind.i64)) (dst := some 21) (ty := _) (pos := _) (af := _) (gd := _) (ps := [(0, .tmp 20)]) ([x52] : List (Int)) i64_one hM hS Try.underlying22 ty_el_3 rfl rfl rfl rfl
        refine st_val hS rfl rfl (by decide) hr fun a hS => ?_
        obtain ⟨_, hx, hF⟩ := bind_some hF
        have hM := hM.pick [1, 0] (by decide) rfl
        obtain ⟨v87, w, hr, hM⟩ := Mem.appE (f := (Value.int IntKind.i64)) (S := _) (R := [(true, ow 3 v86 (List.map (Value.int IntKind.i64) ([x52] : List (Int))))]) (ρ := a.eval) (dst := some 22) (ty := _) (pos := _) (af := _) (gd := _) (x := .tmp 19) (y := .tmp 21) i64_one hM Try.underlying22 ty_el_3 rfl (by decide) (hS.ev rfl) (hS.ev rfl) (rd_of_ow (hM.get 1 rfl)) (catO_some hx)
        refine st_val hS rfl rfl (by decide) hr fun a hS => ?_
        refine st_val hS rfl rfl (by decide) (rv_assign (hS.ev rfl)) fun a hS => ?_
        refine wpList_nil ?_
        exact hJ4 (l51 ++ ([x52] : List (Int))) v87 _ _ (hS.sub (sub_cons rfl (sub_cons rfl (sub_cons rfl sub_nil)))) (hM.pick [0] (by decide) rfl) hF
      · refine cond_f hS rfl hc ?_
        refine wp_skip ?_
        exact hJ4 l51 v50 _ _ (hS.sub (sub_cons rfl (sub_cons rfl (sub_cons rfl sub_nil)))) (hM.pick [0] (by decide) rfl) hF
    · refine cond_f hS rfl hc ?_
      refine wp_exit ?_
      cases hF
      exact hJ1 l51 v50 _ _ (hS.sub (sub_cons rfl sub_nil)) (hM.pick [0] (by decide) rfl) (by have e := hX2 _ rfl; subst e; exact hF2)
  refine wp_region_lit ?_
  refine st_val hS rfl rfl (by decide) (rv_move (hS.ev rfl)) fun a hS => ?_
  refine st_val hS rfl rfl (by decide) (rv_lss (hS.ev rfl) (hS.ev rfl)) fun a hS => ?_
  refine st_val hS rfl rfl (by decide) (rv_move (hS.ev rfl)) fun a hS => ?_
  rcases ite_some hF with ⟨hc, hF⟩ | ⟨hc, hF⟩
  · have hS := hS.setb (t := 8) rfl hc
    refine st_val hS rfl rfl (by decide) (rv_move (hS.ev rfl)) fun a hS => ?_
    obtain ⟨r88, hr, hF⟩ := bind_some hF
    refine st_wp hS rfl (wp_call hS rfl rfl (by decide) fn_ok_95 rfl (c_spec_l3Fine F p0_set hr _) fun v w a hK hS => ?_)
    obtain ⟨rfl, hN⟩ := hK
    have hM := hM.fra hN.fr
    refine st_val hS rfl rfl (by decide) (rv_pick_t (hS.ev rfl) (hS.ev rfl)) fun a hS => ?_
    refine wpList_nil ?_
    exact hJ3 r88 _ _ (hS.sub (sub_cons rfl (sub_cons rfl (sub_cons rfl (sub_cons rfl sub_nil))))) (hM.pick [0] (by decide) rfl) hF
  · have hS := hS.setb (t := 8) rfl hc
    refine st_skip hS rfl rfl (by decide) fun a hS => ?_
    refine st_skip hS rfl rfl (by decide) fun a hS => ?_
    refine st_val hS rfl rfl (by decide) (rv_pick_f (hS.ev rfl) (hS.ev rfl)) fun a hS => ?_
    refine wpList_nil ?_
    exact hJ3 false _ _ (hS.sub (sub_cons rfl (sub_cons rfl (sub_cons rfl (sub_cons rfl sub_nil))))) (hM.pick [0] (by decide) rfl) hF


theorem c_spec_AroundSet (F : Nat) (p0_g_Size : Int) (p0_g_Rows : List Int) (p1_set : Int) (p0_g_Rowsv : Value) {r : Int} (hF : S_spec_AroundSet F p0_g_Size p0_g_Rows p1_set = some r) (w0 : World) (h0 : RdRow w0 p0_g_Rowsv (List.map (Value.int IntKind.i64) p0_g_Rows)) :
    Calls Try.prog 96 [(Value.agg #[(Value.int IntKind.i64 p0_g_Size), p0_g_Rowsv]), (Value.int IntKind.i64 p1_set)].toArray w0 (retPost fun v w' => v = (Value.int IntKind.i64 r) ∧ Mem Nob w0 w' []) := by
  have hM : Mem Nob w0 w0 [(false, rd p0_g_Rowsv (List.map (Value.int IntKind.i64) p0_g_Rows))] := (Mem.rcons (Mem.nil w0) h0 (by simp))
  refine enter2 Try.func96 rfl rfl rfl fun Q a hQr hQn hQp hS => ?_
  have hS : Sl 31 [(0, (Value.agg #[(Value.int IntKind.i64 p0_g_Size), p0_g_Rowsv])), (1, (Value.int IntKind.i64 p1_set))] a := hS
  unfold S_spec_AroundSet at hF
  refine wp_seq_k fun K1 hK1 => ?_
  refine wp_region_lit ?_
  obtain ⟨b3, w, hr, hM⟩ := hM.boxE (ρ := a.eval) (dst := some 2) (ty := _) (pos := _) (af := _) (gd := _) (x := .tmp 0) (T := 27) [(Value.int IntKind.i64 p0_g_Size), p0_g_Rowsv] (hS.ev rfl) rfl
  refine st_val hS rfl rfl (by decide) hr fun a hS => ?_
  refine st_val hS rfl rfl (by decide) (rv_assign (hS.ev rfl)) fun a hS => ?_
  refine wpList_nil ?_
  refine hK1 _ _ ?_
  refine wp_seq_k fun K4 hK4 => ?_
  refine wp_seq_k fun K9 hK9 => ?_
  refine wp_region_lit ?_
  refine st_val hS rfl rfl (by decide) (rv_load_agg (hS.ev rfl) ty_ag_27 (hM.get 0 rfl) ty_sz_27) fun a hS => ?_
  refine st_val hS rfl rfl (by decide) (rv_move (hS.ev rfl)) fun a hS => ?_
  obtain ⟨r11, hr, hF⟩ := bind_some hF
  refine st_wp hS rfl (wp_call hS rfl rfl (by decide) fn_ok_66 rfl (c_spec_IsSet F p0_g_Size p0_g_Rows p1_set p0_g_Rowsv hr _ (hM.get 1 rfl)) fun v w a hK hS => ?_)
  obtain ⟨rfl, hN⟩ := hK
  have hM := hM.fra hN.fr
  refine st_val hS rfl rfl (by decide) (rv_not (hS.ev rfl)) fun a hS => ?_
  refine wpList_nil ?_
  refine hK9 _ _ ?_
  rcases ite_some hF with ⟨hc, hF⟩ | ⟨hc, hF⟩
  · refine cond_t hS rfl hc ?_
    refine wp_seq_k fun K12 hK12 => ?_
    refine wp_region_lit ?_
    refine st_val hS rfl rfl (by decide) (rv_assign (hS.ev rfl)) fun a hS => ?_
    refine wpList_nil ?_
    refine hK12 _ _ ?_
    refine wp_ret ?_
    cases hF
    exact hQr _ _ (r_1 hS rfl rfl ⟨rfl, hM.pick [] (by decide) rfl⟩)
  · refine cond_f hS rfl hc ?_
    refine wp_skip ?_
    refine hK4 _ _ ?_
    refine wp_seq_k fun K13 hK13 => ?_
    refine wp_region_lit ?_
    refine st_val hS rfl rfl (by decide) (rv_move (hS.ev rfl)) fun a hS => ?_
    refine st_val hS rfl rfl (by decide) (rv_assign (hS.ev rfl)) fun a hS => ?_
    refine wpList_nil ?_
    refine hK13 _ _ ?_
    refine wp_seq_k fun K14 hK14 => ?_
    have hJ1 : ∀ (x36 : Int) (a : Act) (w : World), Sl 31 [(5, (Value.int IntKind.i64 x36))] a → Mem Nob w0 w [] → S_spec_AroundSet_j1 F x36 = some r → K14 a w := by
      intro x36 a w hS hM hF
      unfold S_spec_AroundSet_j1 at hF
      refine hK14 _ _ ?_
      refine wp_seq_k fun K37 hK37 => ?_
      refine wp_region_lit ?_
      refine st_val hS rfl rfl (by decide) (rv_move (hS.ev rfl)) fun a hS => ?_
      refine st_val hS rfl rfl (by decide) (rv_assign (hS.ev rfl)) fun a hS => ?_
      refine wpList_nil ?_
      refine hK37 _ _ ?_
      refine wp_ret ?_
      cases hF
      exact hQr _ _ (r_1 hS rfl rfl ⟨rfl, hM.pick [] (by decide) rfl⟩)
    refine wp_seq_k fun K38 hK38 => ?_
    refine wp_region_lit ?_
    refine st_val hS rfl rfl (by decide) (rv_assign (hS.ev rfl)) fun a hS => ?_
    refine wpList_nil ?_
    refine hK38 _ _ ?_
    refine wp_block ?_
    obtain ⟨lb2, hl2, hF2⟩ := bind_some hF
    refine wp_loop_sh (fun s => S_spec_AroundSet_l2 F p0_g_Size p0_g_Rows p1_set s.1 s.2) (fun s a w => Sl 31 [(1, (Value.int IntKind.i64 p1_set)), (2, (fdp b3 0)), (5, (Value.int IntKind.i64 s.1)), (6, (Value.int IntKind.i64 s.2))] a ∧ Mem Nob w0 w [(true, bx b3 27 [(Value.int IntKind.i64 p0_g_Size), p0_g_Rowsv]), (false, rd p0_g_Rowsv (List.map (Value.int IntKind.i64) p0_g_Rows))]) hl2 ⟨(hS.sub (sub_cons rfl (sub_cons rfl (sub_cons rfl (sub_cons rfl sub_nil))))), (hM.pick [0, 1] (by decide) rfl)⟩ ?_
    rintro K2 ⟨x39, x40⟩ a w res2 ⟨hS, hM⟩ hF hN2 hX2
    have hF : S_spec_AroundSet_l2 F p0_g_Size p0_g_Rows p1_set x39 x40 = some res2 := hF
    have hS : Sl 31 [(1, (Value.int IntKind.i64 p1_set)), (2, (fdp b3 0)), (5, (Value.int IntKind.i64 x39)), (6, (Value.int IntKind.i64 x40))] a := hS
    have hM : Mem Nob w0 w [(true, bx b3 27 [(Value.int IntKind.i64 p0_g_Size), p0_g_Rowsv]), (false, rd p0_g_Rowsv (List.map (Value.int IntKind.i64) p0_g_Rows))] := hM
    unfold S_spec_AroundSet_l2 at hF
    refine wp_seq_k fun K50 hK50 => ?_
    refine wp_seq_k fun K52 hK52 => ?_
    refine wp_region_lit ?_
    refine st_val hS rfl rfl (by decide) (rv_move (hS.ev rfl)) fun a hS => ?_
    refine st_val hS rfl rfl (by decide) (rv_fieldAddr ty_fd_27_0 (hS.ev rfl)) fun a hS => ?_
    refine st_val hS rfl rfl (by decide) (rv_load_bx (hS.ev rfl) ty_ag_3 (hM.get 0 rfl) rfl) fun a hS => ?_
    refine st_val hS rfl rfl (by decide) (rv_lss (hS.ev rfl) (hS.ev rfl)) fun a hS => ?_
    refine wpList_nil ?_
    refine hK52 _ _ ?_
    rcases ite_some hF with ⟨hc, hF⟩ | ⟨hc, hF⟩
    · refine cond_t hS rfl hc ?_
      refine wp_skip ?_
      refine hK50 _ _ ?_
      refine wp_seq_k fun K53 hK53 => ?_
      have hJ3 : ∀ (x56 : Int) (a : Act) (w : World), Sl 31 [(1, (Value.int IntKind.i64 p1_set)), (2, (fdp b3 0)), (5, (Value.int IntKind.i64 x56)), (6, (Value.int IntKind.i64 x40))] a → Mem Nob w0 w [(true, bx b3 27 [(Value.int IntKind.i64 p0_g_Size), p0_g_Rowsv]), (false, rd p0_g_Rowsv (List.map (Value.int IntKind.i64) p0_g_Rows))] → S_spec_AroundSet_j3 F x40 x56 = some res2 → K53 a w := by
        intro x56 a w hS hM hF
        unfold S_spec_AroundSet_j3 at hF
        refine hK53 _ _ ?_
        refine wp_region_lit ?_
        refine st_val hS rfl rfl (by decide) (rv_move (hS.ev rfl)) fun a hS => ?_
        refine st_val hS rfl rfl (by decide) (rv_add (hS.ev rfl) (hS.ev rfl)) fun a hS => ?_
        refine st_val hS rfl rfl (by decide) (rv_assign (hS.ev rfl)) fun a hS => ?_
        refine wpList_nil ?_
        cases hF
        exact hN2 _ _ _ rfl ⟨(hS.sub (sub_cons rfl (sub_cons rfl (sub_cons rfl (sub_cons rfl sub_nil))))), (hM.pick [0, 1] (by decide) rfl)⟩
      refine wp_block ?_
      refine wp_seq_k fun K57 hK57 => ?_
      refine wp_region_lit ?_
      refine st_val hS rfl rfl (by decide) (rv_move (hS.ev rfl)) fun a hS => ?_
      refine st_val hS rfl rfl (by decide) (rv_move (hS.ev rfl)) fun a hS => ?_
      obtain ⟨_, hx, hF⟩ := bind_some hF
      have hi0 := nnO_some hx
      refine st_val hS rfl rfl (by decide) (rv_shr (hS.ev rfl) (hS.ev rfl) hi0) fun a hS => ?_
      refine st_val hS rfl rfl (by decide) (rv_and (hS.ev rfl) (hS.ev rfl)) fun a hS => ?_
      refine st_val hS rfl rfl (by decide) (rv_eql (hS.ev rfl) (hS.ev rfl)) fun a hS => ?_
      refine wpList_nil ?_
      refine hK57 _ _ ?_
      rcases ite_some hF with ⟨hc, hF⟩ | ⟨hc, hF⟩
      · refine cond_t hS rfl hc ?_
        refine wp_region_lit ?_
        refine st_val hS rfl rfl (by decide) (rv_move (hS.ev rfl)) fun a hS => ?_
        refine st_val hS rfl rfl (by decide) (rv_fieldAddr ty_fd_27_1 (hS.ev rfl)) fun a hS => ?_
        refine st_val hS rfl rfl (by decide) (rv_load_bx (hS.ev rfl) ty_ag_22 (hM.get 0 rfl) rfl) fun a hS => ?_
        refine st_val hS rfl rfl (by decide) (rv_move (hS.ev rfl)) fun a hS => ?_
        obtain ⟨x58, hx, hF⟩ := bind_some hF
        obtain ⟨hi0, hi1, hex58⟩ := idxL_some hx
        refine st_val hS rfl rfl (by decide) (rv_indexAddr Try.underlying22 ty_el_3 (hS.ev rfl) (hS.ev rfl) (hM.get 1 rfl) hi0 (map_len hi1)) fun a hS => ?_
        refine st_val hS rfl rfl (by decide) (rv_load_el (hS.ev rfl) ty_ag_3 (hM.get 1 rfl) (mget hex58)) fun a hS => ?_
        refine st_val hS rfl rfl (by decide) (rv_or (hS.ev rfl) (hS.ev rfl)) fun a hS => ?_
        refine st_val hS rfl rfl (by decide) (rv_assign (hS.ev rfl)) fun a hS => ?_
        refine wpList_nil ?_
        exact hJ3 (bOr x39 x58) _ _ (hS.sub (sub_cons rfl (sub_cons rfl (sub_cons rfl (sub_cons rfl sub_nil))))) (hM.pick [0, 1] (by decide) rfl) hF
      · refine cond_f hS rfl hc ?_
        refine wp_skip ?_
        exact hJ3 x39 _ _ (hS.sub (sub_cons rfl (sub_cons rfl (sub_cons rfl (sub_cons rfl sub_nil))))) (hM.pick [0, 1] (by decide) rfl) hF
    · refine cond_f hS rfl hc ?_
      refine wp_exit ?_
      cases hF
      exact hJ1 x39 _ _ (hS.sub (sub_cons rfl sub_nil)) (hM.pick [] (by decide) rfl) (by have e := hX2 _ rfl; subst e; exact hF2)


theorem c_spec_l3Grow (F : Nat) (p0_g_Size : Int) (p0_g_Rows : List Int) (p1_from : Int) (p2_set : Int) (p0_g_Rowsv : Value) {r : Int} (hF : S_spec_l3Grow F p0_g_Size p0_g_Rows p1_from p2_set = some r) (w0 : World) (h0 : RdRow w0 p0_g_Rowsv (List.map (Value.int IntKind.i64) p0_g_Rows)) :
    Calls Try.prog 74 [(Value.agg #[(Value.int IntKind.i64 p0_g_Size), p0_g_Rowsv]), (Value.int IntKind.i64 p1_from), (Value.int IntKind.i64 p2_set)].toArray w0 (retPost fun v w' => v = (Value.int IntKind.i64 r) ∧ Mem Nob w0 w' []) := by
  have hM : Mem Nob w0 w0 [(false, rd p0_g_Rowsv (List.map (Value.int IntKind.i64) p0_g_Rows))] := (Mem.rcons (Mem.nil w0) h0 (by simp))
  refine enter2 Try.func74 rfl rfl rfl fun Q a hQr hQn hQp hS => ?_
  have hS : Sl 22 [(0, (Value.agg #[(Value.int IntKind.i64 p0_g_Size), p0_g_Rowsv])), (1, (Value.int IntKind.i64 p1_from)), (2, (Value.int IntKind.i64 p2_set))] a := hS
  unfold S_spec_l3Grow at hF
  refine wp_seq_k fun K1 hK1 => ?_
  refine wp_region_lit ?_
  obtain ⟨b3, w, hr, hM⟩ := hM.boxE (ρ := a.eval) (dst := some 3) (ty := _) (pos := _) (af := _) (gd := _) (x := .tmp 0) (T := 27) [(Value.int IntKind.i64 p0_g_Size), p0_g_Rowsv] (hS.ev rfl) rfl
  refine st_val hS rfl rfl (by decide) hr fun a hS => ?_
  refine st_val hS rfl rfl (by decide) (rv_assign (hS.ev rfl)) fun a hS => ?_
  refine wpList_nil ?_
  refine hK1 _ _ ?_
  refine wp_seq_k fun K4 hK4 => ?_
  refine wp_region_lit ?_
  refine st_val hS rfl rfl (by decide) (rv_move (hS.ev rfl)) fun a hS => ?_
  refine st_val hS rfl rfl (by decide) (rv_assign (hS.ev rfl)) fun a hS => ?_
  refine wpList_nil ?_
  refine hK4 _ _ ?_
  refine wp_seq_k fun K5 hK5 => ?_
  have hJ1 : ∀ (x21 : Int) (a : Act) (w : World), Sl 22 [(7, (Value.int IntKind.i64 x21))] a → Mem Nob w0 w [] → S_spec_l3Grow_j1 F x21 = some r → K5 a w := by
    intro x21 a w hS hM hF
    unfold S_spec_l3Grow_j1 at hF
    refine hK5 _ _ ?_
    refine wp_seq_k fun K22 hK22 => ?_
    refine wp_region_lit ?_
    refine st_val hS rfl rfl (by decide) (rv_move (hS.ev rfl)) fun a hS => ?_
    refine st_val hS rfl rfl (by decide) (rv_assign (hS.ev rfl)) fun a hS => ?_
    refine wpList_nil ?_
    refine hK22 _ _ ?_
    refine wp_ret ?_
    cases hF
    exact hQr _ _ (r_1 hS rfl rfl ⟨rfl, hM.pick [] (by decide) rfl⟩)
  refine wp_seq_k fun K23 hK23 => ?_
  refine wp_region_lit ?_
  refine st_val hS rfl rfl (by decide) (rv_assign (hS.ev rfl)) fun a hS => ?_
  refine wpList_nil ?_
  refine hK23 _ _ ?_
  refine wp_block ?_
  obtain ⟨lb2, hl2, hF2⟩ := bind_some hF
  refine wp_loop_sh (fun s => S_spec_l3Grow_l2 F p0_g_Size p0_g_Rows p2_set s.1 s.2) (fun s a w => Sl 22 [(2, (Value.int IntKind.i64 p2_set)), (3, (fdp b3 0)), (7, (Value.int IntKind.i64 s.1)), (8, (Value.int IntKind.i64 s.2))] a ∧ Mem Nob w0 w [(true, bx b3 27 [(Value.int IntKind.i64 p0_g_Size), p0_g_Rowsv]), (false, rd p0_g_Rowsv (List.map (Value.int IntKind.i64) p0_g_Rows))]) hl2 ⟨(hS.sub (sub_cons rfl (sub_cons rfl (sub_cons rfl (sub_cons rfl sub_nil))))), (hM.pick [0, 1] (by decide) rfl)⟩ ?_
  rintro K2 ⟨x24, x25⟩ a w res2 ⟨hS, hM⟩ hF hN2 hX2
  have hF : S_spec_l3Grow_l2 F p0_g_Size p0_g_Rows p2_set x24 x25 = some res2 := hF
  have hS : Sl 22 [(2, (Value.int IntKind.i64 p2_set)), (3, (fdp b3 0)), (7, (Value.int IntKind.i64 x24)), (8, (Value.int IntKind.i64 x25))] a := hS
  have hM : Mem Nob w0 w [(true, bx b3 27 [(Value.int IntKind.i64 p0_g_Size), p0_g_Rowsv]), (false, rd p0_g_Rowsv (List.map (Value.int IntKind.i64) p0_g_Rows))] := hM
  unfold S_spec_l3Grow_l2 at hF
  refine wp_seq_k fun K32 hK32 => ?_
  refine wp_seq_k fun K34 hK34 => ?_
  refine wp_region_lit ?_
  refine st_val hS rfl rfl (by decide) (rv_move (hS.ev rfl)) fun a hS => ?_
  refine st_val hS rfl rfl (by decide) (rv_fieldAddr ty_fd_27_0 (hS.ev rfl)) fun a hS => ?_
  refine st_val hS rfl rfl (by decide) (rv_load_bx (hS.ev rfl) ty_ag_3 (hM.get 0 rfl) rfl) fun a hS => ?_
  refine st_val hS rfl rfl (by decide) (rv_lss (hS.ev rfl) (hS.ev rfl)) fun a hS => ?_
  refine wpList_nil ?_
  refine hK34 _ _ ?_
  rcases ite_some hF with ⟨hc, hF⟩ | ⟨hc, hF⟩
  · refine cond_t hS rfl hc ?_
    refine wp_skip ?_
    refine hK32 _ _ ?_
    refine wp_seq_k fun K35 hK35 => ?_
    refine wp_block ?_
    refine wp_region_lit ?_
    refine st_val hS rfl rfl (by decide) (rv_load_agg (hS.ev rfl) ty_ag_27 (hM.get 0 rfl) ty_sz_27) fun a hS => ?_
    refine st_val hS rfl rfl (by decide) (rv_move (hS.ev rfl)) fun a hS => ?_
    obtain ⟨r37, hr, hF⟩ := bind_some hF
    refine st_wp hS rfl (wp_call hS rfl rfl (by decide) fn_ok_96 rfl (c_spec_AroundSet F p0_g_Size p0_g_Rows x24 p0_g_Rowsv hr _ (hM.get 1 rfl)) fun v w a hK hS => ?_)
    obtain ⟨rfl, hN⟩ := hK
    have hM := hM.fra hN.fr
    refine st_val hS rfl rfl (by decide) (rv_move (hS.ev rfl)) fun a hS => ?_
    refine st_val hS rfl rfl (by decide) (rv_and (hS.ev rfl) (hS.ev rfl)) fun a hS => ?_
    refine st_val hS rfl rfl (by decide) (rv_assign (hS.ev rfl)) fun a hS => ?_
    refine wpList_nil ?_
    refine hK35 _ _ ?_
    refine wp_region_lit ?_
    refine st_val hS rfl rfl (by decide) (rv_move (hS.ev rfl)) fun a hS => ?_
    refine st_val hS rfl rfl (by decide) (rv_add (hS.ev rfl) (hS.ev rfl)) fun a hS => ?_
    refine st_val hS rfl rfl (by decide) (rv_assign (hS.ev rfl)) fun a hS => ?_
    refine wpList_nil ?_
    cases hF
    exact hN2 _ _ _ rfl ⟨(hS.sub (sub_cons rfl (sub_cons rfl (sub_cons rfl (sub_cons rfl sub_nil))))), (hM.pick [0, 1] (by decide) rfl)⟩
  · refine cond_f hS rfl hc ?_
    refine wp_exit ?_
    cases hF
    exact hJ1 x24 _ _ (hS.sub (sub_cons rfl sub_nil)) (hM.pick [] (by decide) rfl) (by have e := hX2 _ rfl; subst e; exact hF2)


theorem c_spec_PartsOf (F : Nat) (p0_g_Size : Int) (p0_g_Rows : List Int) (p1_set : Int) (p0_g_Rowsv : Value) {r : (List (Int))} (hF : S_spec_PartsOf F p0_g_Size p0_g_Rows p1_set = some r) (w0 : World) (h0 : RdRow w0 p0_g_Rowsv (List.map (Value.int IntKind.i64) p0_g_Rows)) :
    Calls Try.prog 40 [(Value.agg #[(Value.int IntKind.i64 p0_g_Size), p0_g_Rowsv]), (Value.int IntKind.i64 p1_set)].toArray w0 (retPost fun v w' => Mem Nob w0 w' [(true, ow 3 v (List.map (Value.int IntKind.i64) r))]) := by
  have hM : Mem Nob w0 w0 [(false, rd p0_g_Rowsv (List.map (Value.int IntKind.i64) p0_g_Rows))] := (Mem.rcons (Mem.nil w0) h0 (by simp))
  refine enter2 Try.func40 rfl rfl rfl fun Q a hQr hQn hQp hS => ?_
  have hS : Sl 35 [(0, (Value.agg #[(Value.int IntKind.i64 p0_g_Size), p0_g_Rowsv])), (1, (Value.int IntKind.i64 p1_set))] a := hS
  unfold S_spec_PartsOf at hF
  refine wp_seq_k fun K1 hK1 => ?_
  refine wp_region_lit ?_
  obtain ⟨b3, w, hr, hM⟩ := hM.boxE (ρ := a.eval) (dst := some 2) (ty := _) (pos := _) (af := _) (gd := _) (x := .tmp 0) (T := 27) [(Value.int IntKind.i64 p0_g_Size), p0_g_Rowsv] (hS.ev rfl) rfl
  refine st_val hS rfl rfl (by decide) hr fun a hS => ?_
  refine st_val hS rfl rfl (by decide) (rv_assign (hS.ev rfl)) fun a hS => ?_
  refine wpList_nil ?_
  refine hK1 _ _ ?_
  refine wp_seq_k fun K4 hK4 => ?_
  refine wp_region_lit ?_
  obtain ⟨v6, w, hr, hM⟩ := Mem.litE (f := (Value.int IntKind.i64)) (dst := some 9) (ty := _) (pos := _) (af := _) (gd := _) (ps := []) ([] : List (Int)) i64_one hM hS Try.underlying22 ty_el_3 rfl rfl rfl rfl
  refine st_val hS rfl rfl (by decide) hr fun a hS => ?_
  refine st_val hS rfl rfl (by decide) (rv_assign (hS.ev rfl)) fun a hS => ?_
  refine wpList_nil ?_
  refine hK4 _ _ ?_
  refine wp_seq_k fun K7 hK7 => ?_
  refine wp_region_lit ?_
  refine st_val hS rfl rfl (by decide) (rv_move (hS.ev rfl)) fun a hS => ?_
  refine st_val hS rfl rfl (by decide) (rv_assign (hS.ev rfl)) fun a hS => ?_
  refine wpList_nil ?_
  refine hK7 _ _ ?_
  refine wp_seq_k fun K8 hK8 => ?_
  have hJ1 : ∀ (l61 : List Int) (v60 : Value) (a : Act) (w : World), Sl 35 [(5, v60)] a → Mem Nob w0 w [(true, ow 3 v60 (List.map (Value.int IntKind.i64) l61))] → S_spec_PartsOf_j1 F l61 = some r → K8 a w := by
    intro l61 v60 a w hS hM hF
    unfold S_spec_PartsOf_j1 at hF
    refine hK8 _ _ ?_
    refine wp_seq_k fun K62 hK62 => ?_
    refine wp_region_lit ?_
    refine st_val hS rfl rfl (by decide) (rv_move (hS.ev rfl)) fun a hS => ?_
    refine st_val hS rfl rfl (by decide) (rv_assign (hS.ev rfl)) fun a hS => ?_
    refine wpList_nil ?_
    refine hK62 _ _ ?_
    refine wp_ret ?_
    cases hF
    exact hQr _ _ (r_1 hS rfl rfl (hM.pick [0] (by decide) rfl))
  refine wp_block ?_
  obtain ⟨lb2, hl2, hF2⟩ := bind_some hF
  refine wp_loop_sh (fun s => S_spec_PartsOf_l2 F p0_g_Size p0_g_Rows p1_set s.1 s.2) (fun s a w => ∃ (v63 : Value), Sl 35 [(1, (Value.int IntKind.i64 p1_set)), (2, (fdp b3 0)), (5, v63), (6, (Value.int IntKind.i64 s.2))] a ∧ Mem Nob w0 w [(true, bx b3 27 [(Value.int IntKind.i64 p0_g_Size), p0_g_Rowsv]), (false, rd p0_g_Rowsv (List.map (Value.int IntKind.i64) p0_g_Rows)), (true, ow 3 v63 (List.map (Value.int IntKind.i64) s.1))]) hl2 ⟨v6, (hS.sub (sub_cons rfl (sub_cons rfl (sub_cons rfl (sub_cons rfl sub_nil))))), (hM.pick [1, 2, 0] (by decide) rfl)⟩ ?_
  rintro K2 ⟨l64, x65⟩ a w res2 ⟨v63, hS, hM⟩ hF hN2 hX2
  have hF : S_spec_PartsOf_l2 F p0_g_Size p0_g_Rows p1_set l64 x65 = some res2 := hF
  have hS : Sl 35 [(1, (Value.int IntKind.i64 p1_set)), (2, (fdp b3 0)), (5, v63), (6, (Value.int IntKind.i64 x65))] a := hS
  have hM : Mem Nob w0 w [(true, bx b3 27 [(Value.int IntKind.i64 p0_g_Size), p0_g_Rowsv]), (false, rd p0_g_Rowsv (List.map (Value.int IntKind.i64) p0_g_Rows)), (true, ow 3 v63 (List.map (Value.int IntKind.i64) l64))] := hM
  unfold S_spec_PartsOf_l2 at hF
  refine wp_seq_k fun K90 hK90 => ?_
  refine wp_seq_k fun K95 hK95 => ?_
  have hJ3 : ∀ (p97 : Bool) (a : Act) (w : World), Sl 35 [(1, (Value.int IntKind.i64 p1_set)), (2, (fdp b3 0)), (5, v63), (6, (Value.int IntKind.i64 x65)), (17, (Value.bool p97))] a → Mem Nob w0 w [(true, bx b3 27 [(Value.int IntKind.i64 p0_g_Size), p0_g_Rowsv]), (false, rd p0_g_Rowsv (List.map (Value.int IntKind.i64) p0_g_Rows)), (true, ow 3 v63 (List.map (Value.int IntKind.i64) l64))] → S_spec_PartsOf_j3 F p0_g_Size p0_g_Rows p1_set l64 x65 p97 = some res2 → K95 a w := by
    intro p97 a w hS hM hF
    unfold S_spec_PartsOf_j3 at hF
    refine hK95 _ _ ?_
    rcases ite_some hF with ⟨hc, hF⟩ | ⟨hc, hF⟩
    · refine cond_t hS rfl hc ?_
      refine wp_skip ?_
      refine hK90 _ _ ?_
      refine wp_block ?_
      refine wp_seq_k fun K98 hK98 => ?_
      refine wp_region_lit ?_
      refine st_val hS rfl rfl (by decide) (rv_move (hS.ev rfl)) fun a hS => ?_
      obtain ⟨r102, hr, hF⟩ := bind_some hF
      refine st_wp hS rfl (wp_call hS rfl rfl (by decide) fn_ok_67 rfl (c_spec_ListOf F x65 hr _) fun v103 w a hK hS => ?_)
      have hN := hK
      have hM := hM.add hN rfl
      obtain ⟨x104, hx, hF⟩ := bind_some hF
      obtain ⟨hi0, hi1, hex104⟩ := idxL_some hx
      refine st_val hS rfl rfl (by decide) (rv_indexAddr Try.underlying22 ty_el_3 (hS.ev rfl) (hS.ev rfl) (rd_of_ow (hM.get 0 rfl)) hi0 (map_len hi1)) fun a hS => ?_
      refine st_val hS rfl rfl (by decide) (rv_load_el (hS.ev rfl) ty_ag_3 (rd_of_ow (hM.get 0 rfl)) (mget hex104)) fun a hS => ?_
      refine st_val hS rfl rfl (by decide) (rv_assign (hS.ev rfl)) fun a hS => ?_
      refine wpList_nil ?_
      refine hK98 _ _ ?_
      refine wp_seq_k fun K105 hK105 => ?_
      refine an_start Nob ty_mixed fun w hf => ?_
      have hM := hM.fra hf
      have hB := hM
      have hM := hB.reg0
      refine an_take hS (i := 0) rfl (by kernel_rfl) (by kernel_rfl) (by kernel_rfl) rfl (by decide) (fun c a a' w hd h => hQp c a a' w hd h) rfl (fun w' hC' => (rv_load_agg (hS.ev rfl) ty_ag_27 ((hB.fra hC').get 1 rfl) ty_sz_27)) hM.fr fun a hS => ?_
      refine an_take hS (i := 1) rfl (by kernel_rfl) (by kernel_rfl) (by kernel_rfl) rfl (by decide) (fun c a a' w hd h => hQp c a a' w hd h) rfl (fun w' hC' => (rv_move (hS.ev rfl))) hM.fr fun a hS => ?_
      obtain ⟨_, hx, hF⟩ := bind_some hF
      have hi0 := nnO_some hx
      refine an_take hS (i := 2) rfl (by kernel_rfl) (by kernel_rfl) (by kernel_rfl) rfl (by decide) (fun c a a' w hd h => hQp c a a' w hd h) rfl (fun w' hC' => (rv_shl (hS.ev rfl) (hS.ev rfl) hi0)) hM.fr fun a hS => ?_
      refine an_take hS (i := 3) rfl (by kernel_rfl) (by kernel_rfl) (by kernel_rfl) rfl (by decide) (fun c a a' w hd h => hQp c a a' w hd h) rfl (fun w' hC' => (rv_move (hS.ev rfl))) hM.fr fun a hS => ?_
      obtain ⟨r107, hr, hF⟩ := bind_some hF
      refine an_one hS (i := 4) rfl (by kernel_rfl) rfl ?_
      refine wp_call hS rfl rfl (by decide) fn_ok_74 rfl (c_spec_l3Grow F p0_g_Size p0_g_Rows (shL 1 x104) p1_set p0_g_Rowsv hr _ (hM.get 2 rfl)) fun v w a hK hS => ?_
      obtain ⟨rfl, hN⟩ := hK
      have hM := hM.fra hN.fr
      refine ⟨hM.fr, ?_⟩
      refine an_take hS (i := 5) rfl (by kernel_rfl) (by kernel_rfl) (by kernel_rfl) rfl (by decide) (fun c a a' w hd h => hQp c a a' w hd h) rfl (fun w' hC' => (rv_assign (hS.ev rfl))) hM.fr fun a hS => ?_
      refine an_done (by kernel_rfl) ?_
      have hN := hM.pick [] (by decide) rfl
      have hM := Mem.callo (A := []) (B := [(true, ow 3 v103 (List.map (Value.int IntKind.i64) r102)), (true, bx b3 27 [(Value.int IntKind.i64 p0_g_Size), p0_g_Rowsv]), (false, rd p0_g_Rowsv (List.map (Value.int IntKind.i64) p0_g_Rows)), (true, ow 3 v63 (List.map (Value.int IntKind.i64) l64))]) hB rfl (hN.memS fun _ h => h.elim) rfl
      refine hK105 _ _ ?_
      refine wp_seq_k fun K108 hK108 => ?_
      refine wp_region_lit ?_
      refine st_val hS rfl rfl (by decide) (rv_move (hS.ev rfl)) fun a hS => ?_
      refine st_val hS rfl rfl (by decide) (rv_move (hS.ev rfl)) fun a hS => ?_
      obtain ⟨v111, w, hr, hM⟩ := Mem.litE (f := (Value.int IntKind.i64)) (dst := some 29) (ty := _) (pos := _) (af := _) (gd := _) (ps := [(0, .tmp 28)]) ([r107] : List (Int)) i64_one hM hS Try.underlying22 ty_el_3 rfl rfl rfl rfl
      refine st_val hS rfl rfl (by decide) hr fun a hS => ?_
      obtain ⟨_, hx, hF⟩ := bind_some hF
      have hM := hM.pick [4, 0, 1, 2, 3] (by decide) rfl
      obtain ⟨v112, w, hr, hM⟩ := Mem.appE (f := (Value.int IntKind.i64)) (S := _) (R := [(true, ow 3 v111 (List.map (Value.int IntKind.i64) ([r107] : List (Int)))), (true, ow 3 v103 (List.map (Value.int IntKind.i64) r102)), (true, bx b3 27 [(Value.int IntKind.i64 p0_g_Size), p0_g_Rowsv]), (false, rd p0_g_Rowsv (List.map (Value.int IntKind.i64) p0_g_Rows))]) (ρ := a.eval) (dst := some 30) (ty := _) (pos := _) (af := _) (gd := _) (x := .tmp 27) (y := .tmp 29) i64_one hM Try.underlying22 ty_el_3 rfl (by decide) (hS.ev rfl) (hS.ev rfl) (rd_of_ow (hM.get 1 rfl)) (catO_some hx)
      refine st_val hS rfl rfl (by decide) hr fun a hS => ?_
      refine st_val hS rfl rfl (by decide) (rv_assign (hS.ev rfl)) fun a hS => ?_
      refine wpList_nil ?_
      refine hK108 _ _ ?_
      refine wp_region_lit ?_
      refine st_val hS rfl rfl (by decide) (rv_move (hS.ev rfl)) fun a hS => ?_
      refine st_val hS rfl rfl (by decide) (rv_move (hS.ev rfl)) fun a hS => ?_
      refine st_val hS rfl rfl (by decide) (rv_sub (hS.ev rfl) (hS.ev rfl)) fun a hS => ?_
      refine st_val hS rfl rfl (by decide) (rv_assign (hS.ev rfl)) fun a hS => ?_
      refine wpList_nil ?_
      cases hF
      exact hN2 _ _ _ rfl ⟨v112, (hS.sub (sub_cons rfl (sub_cons rfl (sub_cons rfl (sub_cons rfl sub_nil))))), (hM.pick [3, 4, 0] (by decide) rfl)⟩
    · refine cond_f hS rfl hc ?_
      refine wp_exit ?_
      cases hF
      exact hJ1 l64 v63 _ _ (hS.sub (sub_cons rfl sub_nil)) (hM.pick [2] (by decide) rfl) (by have e := hX2 _ rfl; subst e; exact hF2)
  refine wp_region_lit ?_
  refine st_val hS rfl rfl (by decide) (rv_move (hS.ev rfl)) fun a hS => ?_
  refine st_val hS rfl rfl (by decide) (rv_gtr (hS.ev rfl) (hS.ev rfl)) fun a hS => ?_
  refine st_val hS rfl rfl (by decide) (rv_move (hS.ev rfl)) fun a hS => ?_
  rcases ite_some hF with ⟨hc, hF⟩ | ⟨hc, hF⟩
  · have hS := hS.setb (t := 13) rfl hc
    refine st_val hS rfl rfl (by decide) (rv_load_agg (hS.ev rfl) ty_ag_27 (hM.get 0 rfl) ty_sz_27) fun a hS => ?_
    refine st_val hS rfl rfl (by decide) (rv_move (hS.ev rfl)) fun a hS => ?_
    obtain ⟨r113, hr, hF⟩ := bind_some hF
    refine st_wp hS rfl (wp_call hS rfl rfl (by decide) fn_ok_66 rfl (c_spec_IsSet F p0_g_Size p0_g_Rows p1_set p0_g_Rowsv hr _ (hM.get 1 rfl)) fun v w a hK hS => ?_)
    obtain ⟨rfl, hN⟩ := hK
    have hM := hM.fra hN.fr
    refine st_val hS rfl rfl (by decide) (rv_pick_t (hS.ev rfl) (hS.ev rfl)) fun a hS => ?_
    refine wpList_nil ?_
    exact hJ3 r113 _ _ (hS.sub (sub_cons rfl (sub_cons rfl (sub_cons rfl (sub_cons rfl (sub_cons rfl sub_nil)))))) (hM.pick [0, 1, 2] (by decide) rfl) hF
  · have hS := hS.setb (t := 13) rfl hc
    refine st_skip hS rfl rfl (by decide) fun a hS => ?_
    refine st_skip hS rfl rfl (by decide) fun a hS => ?_
    refine st_skip hS rfl rfl (by decide) fun a hS => ?_
    refine st_val hS rfl rfl (by decide) (rv_pick_f (hS.ev rfl) (hS.ev rfl)) fun a hS => ?_
    refine wpList_nil ?_
    exact hJ3 false _ _ (hS.sub (sub_cons rfl (sub_cons rfl (sub_cons rfl (sub_cons rfl (sub_cons rfl sub_nil)))))) (hM.pick [0, 1, 2] (by decide) rfl) hF


theorem c_spec_IsConnected (F : Nat) (p0_g_Size : Int) (p0_g_Rows : List Int) (p0_g_Rowsv : Value) {r : Bool} (hF : S_spec_IsConnected F p0_g_Size p0_g_Rows = some r) (w0 : World) (h0 : RdRow w0 p0_g_Rowsv (List.map (Value.int IntKind.i64) p0_g_Rows)) :
    Calls Try.prog 27 [(Value.agg #[(Value.int IntKind.i64 p0_g_Size), p0_g_Rowsv])].toArray w0 (retPost fun v w' => v = (Value.bool r) ∧ Mem Nob w0 w' []) := by
  have hM : Mem Nob w0 w0 [(false, rd p0_g_Rowsv (List.map (Value.int IntKind.i64) p0_g_Rows))] := (Mem.rcons (Mem.nil w0) h0 (by simp))
  refine enter2 Try.func27 rfl rfl rfl fun Q a hQr hQn hQp hS => ?_
  have hS : Sl 15 [(0, (Value.agg #[(Value.int IntKind.i64 p0_g_Size), p0_g_Rowsv]))] a := hS
  unfold S_spec_IsConnected at hF
  refine wp_seq_k fun K1 hK1 => ?_
  refine wp_region_lit ?_
  obtain ⟨b3, w, hr, hM⟩ := hM.boxE (ρ := a.eval) (dst := some 1) (ty := _) (pos := _) (af := _) (gd := _) (x := .tmp 0) (T := 27) [(Value.int IntKind.i64 p0_g_Size), p0_g_Rowsv] (hS.ev rfl) rfl
  refine st_val hS rfl rfl (by decide) hr fun a hS => ?_
  refine st_val hS rfl rfl (by decide) (rv_assign (hS.ev rfl)) fun a hS => ?_
  refine wpList_nil ?_
  refine hK1 _ _ ?_
  refine wp_seq_k fun K4 hK4 => ?_
  have hJ1 : ∀ (p8 : Bool) (a : Act) (w : World), Sl 15 [(2, (Value.bool p8))] a → Mem Nob w0 w [] → S_spec_IsConnected_j1 F p8 = some r → K4 a w := by
    intro p8 a w hS hM hF
    unfold S_spec_IsConnected_j1 at hF
    refine hK4 _ _ ?_
    refine wp_ret ?_
    cases hF
    exact hQr _ _ (r_1 hS rfl rfl ⟨rfl, hM.pick [] (by decide) rfl⟩)
  refine an_start Nob ty_mixed fun w hf => ?_
  have hM := hM.fra hf
  have hB := hM
  have hM := hB.reg0
  refine an_take hS (i := 0) rfl (by kernel_rfl) (by kernel_rfl) (by kernel_rfl) rfl (by decide) (fun c a a' w hd h => hQp c a a' w hd h) rfl (fun w' hC' => (rv_load_agg (hS.ev rfl) ty_ag_27 ((hB.fra hC').get 0 rfl) ty_sz_27)) hM.fr fun a hS => ?_
  obtain ⟨r9, hr, hF⟩ := bind_some hF
  refine an_one hS (i := 1) rfl (by kernel_rfl) rfl ?_
  refine wp_call hS rfl rfl (by decide) fn_ok_52 rfl (c_spec_IsGraph F p0_g_Size p0_g_Rows p0_g_Rowsv hr _ (hM.get 1 rfl)) fun v w a hK hS => ?_
  obtain ⟨rfl, hN⟩ := hK
  have hM := hM.fra hN.fr
  refine ⟨hM.fr, ?_⟩
  refine an_take hS (i := 2) rfl (by kernel_rfl) (by kernel_rfl) (by kernel_rfl) rfl (by decide) (fun c a a' w hd h => hQp c a a' w hd h) rfl (fun w' hC' => (rv_move (hS.ev rfl))) hM.fr fun a hS => ?_
  rcases ite_some hF with ⟨hc, hF⟩ | ⟨hc, hF⟩
  · have hS := hS.setb (t := 5) rfl hc
    refine an_take hS (i := 3) rfl (by kernel_rfl) (by kernel_rfl) (by kernel_rfl) rfl (by decide) (fun c a a' w hd h => hQp c a a' w hd h) rfl (fun w' hC' => (rv_load_agg (hS.ev rfl) ty_ag_27 ((hB.fra hC').get 0 rfl) ty_sz_27)) hM.fr fun a hS => ?_
    refine an_take hS (i := 4) rfl (by kernel_rfl) (by kernel_rfl) (by kernel_rfl) rfl (by decide) (fun c a a' w hd h => hQp c a a' w hd h) rfl (fun w' hC' => (rv_fieldAddr ty_fd_27_0 (hS.ev rfl))) hM.fr fun a hS => ?_
    refine an_take hS (i := 5) rfl (by kernel_rfl) (by kernel_rfl) (by kernel_rfl) rfl (by decide) (fun c a a' w hd h => hQp c a a' w hd h) rfl (fun w' hC' => (rv_load_bx (hS.ev rfl) ty_ag_3 ((hB.fra hC').get 0 rfl) rfl)) hM.fr fun a hS => ?_
    obtain ⟨_, hx, hF⟩ := bind_some hF
    have hi0 := nnO_some hx
    refine an_take hS (i := 6) rfl (by kernel_rfl) (by kernel_rfl) (by kernel_rfl) rfl (by decide) (fun c a a' w hd h => hQp c a a' w hd h) rfl (fun w' hC' => (rv_shl (hS.ev rfl) (hS.ev rfl) hi0)) hM.fr fun a hS => ?_
    refine an_take hS (i := 7) rfl (by kernel_rfl) (by kernel_rfl) (by kernel_rfl) rfl (by decide) (fun c a a' w hd h => hQp c a a' w hd h) rfl (fun w' hC' => (rv_sub (hS.ev rfl) (hS.ev rfl))) hM.fr fun a hS => ?_
    obtain ⟨r10, hr, hF⟩ := bind_some hF
    refine an_one hS (i := 8) rfl (by kernel_rfl) rfl ?_
    refine wp_call hS rfl rfl (by decide) fn_ok_40 rfl (c_spec_PartsOf F p0_g_Size p0_g_Rows (IntKind.i64.wrap ((shL 1 p0_g_Size) - 1)) p0_g_Rowsv hr _ (hM.get 1 rfl)) fun v11 w a hK hS => ?_
    have hN := hK
    have hM := hM.add hN rfl
    refine ⟨hM.fr, ?_⟩
    refine an_take hS (i := 9) rfl (by kernel_rfl) (by kernel_rfl) (by kernel_rfl) rfl (by decide) (fun c a a' w hd h => hQp c a a' w hd h) rfl (fun w' hC' => (rv_len_rowM Try.underlying22 (hS.ev rfl) (rd_of_ow (hM.get 0 rfl)))) hM.fr fun a hS => ?_
    refine an_take hS (i := 10) rfl (by kernel_rfl) (by kernel_rfl) (by kernel_rfl) rfl (by decide) (fun c a a' w hd h => hQp c a a' w hd h) rfl (fun w' hC' => (rv_eql (hS.ev rfl) (hS.ev rfl))) hM.fr fun a hS => ?_
    refine an_take hS (i := 11) rfl (by kernel_rfl) (by kernel_rfl) (by kernel_rfl) rfl (by decide) (fun c a a' w hd h => hQp c a a' w hd h) rfl (fun w' hC' => (rv_pick_t (hS.ev rfl) (hS.ev rfl))) hM.fr fun a hS => ?_
    refine an_take hS (i := 12) rfl (by kernel_rfl) (by kernel_rfl) (by kernel_rfl) rfl (by decide) (fun c a a' w hd h => hQp c a a' w hd h) rfl (fun w' hC' => (rv_assign (hS.ev rfl))) hM.fr fun a hS => ?_
    refine an_done (by kernel_rfl) ?_
    have hN := hM.pick [0] (by decide) rfl
    have hM := Mem.callo (A := []) (B := [(true, bx b3 27 [(Value.int IntKind.i64 p0_g_Size), p0_g_Rowsv]), (false, rd p0_g_Rowsv (List.map (Value.int IntKind.i64) p0_g_Rows))]) hB rfl (hN.memS fun _ h => h.elim) rfl
    exact hJ1 ((r10.length : Int) == 1) _ _ (hS.sub (sub_cons rfl sub_nil)) (hM.pick [] (by decide) rfl) hF
  · have hS := hS.setb (t := 5) rfl hc
    refine an_skip hS (i := 3) rfl (by kernel_rfl) (by kernel_rfl) (by kernel_rfl) rfl (by decide) (fun c a a' w hd h => hQp c a a' w hd h) rfl hM.fr fun a hS => ?_
    refine an_skip hS (i := 4) rfl (by kernel_rfl) (by kernel_rfl) (by kernel_rfl) rfl (by decide) (fun c a a' w hd h => hQp c a a' w hd h) rfl hM.fr fun a hS => ?_
    refine an_skip hS (i := 5) rfl (by kernel_rfl) (by kernel_rfl) (by kernel_rfl) rfl (by decide) (fun c a a' w hd h => hQp c a a' w hd h) rfl hM.fr fun a hS => ?_
    refine an_skip hS (i := 6) rfl (by kernel_rfl) (by kernel_rfl) (by kernel_rfl) rfl (by decide) (fun c a a' w hd h => hQp c a a' w hd h) rfl hM.fr fun a hS => ?_
    refine an_skip hS (i := 7) rfl (by kernel_rfl) (by kernel_rfl) (by kernel_rfl) rfl (by decide) (fun c a a' w hd h => hQp c a a' w hd h) rfl hM.fr fun a hS => ?_
    refine an_skip hS (i := 8) rfl (by kernel_rfl) (by kernel_rfl) (by kernel_rfl) rfl (by decide) (fun c a a' w hd h => hQp c a a' w hd h) rfl hM.fr fun a hS => ?_
    refine an_skip hS (i := 9) rfl (by kernel_rfl) (by kernel_rfl) (by kernel_rfl) rfl (by decide) (fun c a a' w hd h => hQp c a a' w hd h) rfl hM.fr fun a hS => ?_
    refine an_skip hS (i := 10) rfl (by kernel_rfl) (by kernel_rfl) (by kernel_rfl) rfl (by decide) (fun c a a' w hd h => hQp c a a' w hd h) rfl hM.fr fun a hS => ?_
    refine an_take hS (i := 11) rfl (by kernel_rfl) (by kernel_rfl) (by kernel_rfl) rfl (by decide) (fun c a a' w hd h => hQp c a a' w hd h) rfl (fun w' hC' => (rv_pick_f (hS.ev rfl) (hS.ev rfl))) hM.fr fun a hS => ?_
    refine an_take hS (i := 12) rfl (by kernel_rfl) (by kernel_rfl) (by kernel_rfl) rfl (by decide) (fun c a a' w hd h => hQp c a a' w hd h) rfl (fun w' hC' => (rv_assign (hS.ev rfl))) hM.fr fun a hS => ?_
    refine an_done (by kernel_rfl) ?_
    have hN := hM.pick [] (by decide) rfl
    have hM := Mem.callo (A := []) (B := [(true, bx b3 27 [(Value.int IntKind.i64 p0_g_Size), p0_g_Rowsv]), (false, rd p0_g_Rowsv (List.map (Value.int IntKind.i64) p0_g_Rows))]) hB rfl (hN.memS fun _ h => h.elim) rfl
    exact hJ1 false _ _ (hS.sub (sub_cons rfl sub_nil)) (hM.pick [] (by decide) rfl) hF


theorem c_impl_neighbors (F : Nat) (p0_g_Size : Int) (p0_g_Rows : List Int) (p1_set : Int) (p0_g_Rowsv : Value) {r : Int} (hF : S_impl_neighbors F p0_g_Size p0_g_Rows p1_set = some r) (w0 : World) (h0 : RdRow w0 p0_g_Rowsv (List.map (Value.int IntKind.i64) p0_g_Rows)) :
    Calls Try.prog 100 [(Value.agg #[(Value.int IntKind.i64 p0_g_Size), p0_g_Rowsv]), (Value.int IntKind.i64 p1_set)].toArray w0 (retPost fun v w' => v = (Value.int IntKind.i64 r) ∧ Mem Nob w0 w' []) := by
  have hM : Mem Nob w0 w0 [(false, rd p0_g_Rowsv (List.map (Value.int IntKind.i64) p0_g_Rows))] := (Mem.rcons (Mem.nil w0) h0 (by simp))
  refine enter2 Try.func100 rfl rfl rfl fun Q a hQr hQn hQp hS => ?_
  have hS : Sl 24 [(0, (Value.agg #[(Value.int IntKind.i64 p0_g_Size), p0_g_Rowsv])), (1, (Value.int IntKind.i64 p1_set))] a := hS
  unfold S_impl_neighbors at hF
  refine wp_seq_k fun K1 hK1 => ?_
  refine wp_region_lit ?_
  obtain ⟨b3, w, hr, hM⟩ := hM.boxE (ρ := a.eval) (dst := some 2) (ty := _) (pos := _) (af := _) (gd := _) (x := .tmp 0) (T := 27) [(Value.int IntKind.i64 p0_g_Size), p0_g_Rowsv] (hS.ev rfl) rfl
  refine st_val hS rfl rfl (by decide) hr fun a hS => ?_
  refine st_val hS rfl rfl (by decide) (rv_assign (hS.ev rfl)) fun a hS => ?_
  refine wpList_nil ?_
  refine hK1 _ _ ?_
  refine wp_seq_k fun K4 hK4 => ?_
  refine wp_region_lit ?_
  refine st_val hS rfl rfl (by decide) (rv_assign (hS.ev rfl)) fun a hS => ?_
  refine wpList_nil ?_
  refine hK4 _ _ ?_
  refine wp_seq_k fun K5 hK5 => ?_
  have hJ1 : ∀ (x35 : Int) (a : Act) (w : World), Sl 24 [(5, (Value.int IntKind.i64 x35))] a → Mem Nob w0 w [] → S_impl_neighbors_j1 F x35 = some r → K5 a w := by
    intro x35 a w hS hM hF
    unfold S_impl_neighbors_j1 at hF
    refine hK5 _ _ ?_
    refine wp_seq_k fun K36 hK36 => ?_
    refine wp_region_lit ?_
    refine st_val hS rfl rfl (by decide) (rv_move (hS.ev rfl)) fun a hS => ?_
    refine st_val hS rfl rfl (by decide) (rv_assign (hS.ev rfl)) fun a hS => ?_
    refine wpList_nil ?_
    refine hK36 _ _ ?_
    refine wp_ret ?_
    cases hF
    exact hQr _ _ (r_1 hS rfl rfl ⟨rfl, hM.pick [] (by decide) rfl⟩)
  refine wp_seq_k fun K37 hK37 => ?_
  refine wp_region_lit ?_
  refine st_val hS rfl rfl (by decide) (rv_move (hS.ev rfl)) fun a hS => ?_
  obtain ⟨r40, hr, hF⟩ := bind_some hF
  refine st_wp hS rfl (wp_call hS rfl rfl (by decide) fn_ok_64 rfl (c_impl_ListOf F p1_set hr _) fun v41 w a hK hS => ?_)
  have hN := hK
  have hM := hM.add hN rfl
  refine st_val hS rfl rfl (by decide) (rv_len_rowM Try.underlying22 (hS.ev rfl) (rd_of_ow (hM.get 0 rfl))) fun a hS => ?_
  refine st_val hS rfl rfl (by decide) (rv_move (hS.ev rfl)) fun a hS => ?_
  refine wpList_nil ?_
  refine hK37 _ _ ?_
  refine wp_block ?_
  obtain ⟨lb2, hl2, hF2⟩ := bind_some hF
  refine wp_loop_sh (fun s => S_impl_neighbors_l2 F p0_g_Rows r40 s.1 s.2) (fun s a w => Sl 24 [(2, (fdp b3 0)), (5, (Value.int IntKind.i64 s.1)), (9, v41), (10, (Value.int IntKind.i64 (r40.length : Int))), (11, (Value.int IntKind.i64 s.2))] a ∧ Mem Nob w0 w [(true, bx b3 27 [(Value.int IntKind.i64 p0_g_Size), p0_g_Rowsv]), (false, rd p0_g_Rowsv (List.map (Value.int IntKind.i64) p0_g_Rows)), (true, ow 3 v41 (List.map (Value.int IntKind.i64) r40))]) hl2 ⟨(hS.sub (sub_cons rfl (sub_cons rfl (sub_cons rfl (sub_cons rfl (sub_cons rfl sub_nil)))))), (hM.pick [1, 2, 0] (by decide) rfl)⟩ ?_
  rintro K2 ⟨x42, x43⟩ a w res2 ⟨hS, hM⟩ hF hN2 hX2
  have hF : S_impl_neighbors_l2 F p0_g_Rows r40 x42 x43 = some res2 := hF
  have hS : Sl 24 [(2, (fdp b3 0)), (5, (Value.int IntKind.i64 x42)), (9, v41), (10, (Value.int IntKind.i64 (r40.length : Int))), (11, (Value.int IntKind.i64 x43))] a := hS
  have hM : Mem Nob w0 w [(true, bx b3 27 [(Value.int IntKind.i64 p0_g_Size), p0_g_Rowsv]), (false, rd p0_g_Rowsv (List.map (Value.int IntKind.i64) p0_g_Rows)), (true, ow 3 v41 (List.map (Value.int IntKind.i64) r40))] := hM
  unfold S_impl_neighbors_l2 at hF
  refine wp_seq_k fun K55 hK55 => ?_
  refine wp_region_lit ?_
  refine st_val hS rfl rfl (by decide) (rv_lss (hS.ev rfl) (hS.ev rfl)) fun a hS => ?_
  refine wpList_nil ?_
  refine hK55 _ _ ?_
  refine wp_seq_k fun K56 hK56 => ?_
  rcases ite_some hF with ⟨hc, hF⟩ | ⟨hc, hF⟩
  · refine cond_t hS rfl hc ?_
    refine wp_skip ?_
    refine hK56 _ _ ?_
    refine wp_seq_k fun K57 hK57 => ?_
    refine wp_block ?_
    refine wp_seq_k fun K62 hK62 => ?_
    refine wp_region_lit ?_
    obtain ⟨x64, hx, hF⟩ := bind_some hF
    obtain ⟨hi0, hi1, hex64⟩ := idxL_some hx
    refine st_val hS rfl rfl (by decide) (rv_indexAddr Try.underlying22 ty_el_3 (hS.ev rfl) (hS.ev rfl) (rd_of_ow (hM.get 2 rfl)) hi0 (map_len hi1)) fun a hS => ?_
    refine st_val hS rfl rfl (by decide) (rv_load_el (hS.ev rfl) ty_ag_3 (rd_of_ow (hM.get 2 rfl)) (mget hex64)) fun a hS => ?_
    refine st_val hS rfl rfl (by decide) (rv_assign (hS.ev rfl)) fun a hS => ?_
    refine wpList_nil ?_
    refine hK62 _ _ ?_
    refine wp_region_lit ?_
    refine st_val hS rfl rfl (by decide) (rv_move (hS.ev rfl)) fun a hS => ?_
    refine st_val hS rfl rfl (by decide) (rv_fieldAddr ty_fd_27_1 (hS.ev rfl)) fun a hS => ?_
    refine st_val hS rfl rfl (by decide) (rv_load_bx (hS.ev rfl) ty_ag_22 (hM.get 0 rfl) rfl) fun a hS => ?_
    refine st_val hS rfl rfl (by decide) (rv_move (hS.ev rfl)) fun a hS => ?_
    obtain ⟨x65, hx, hF⟩ := bind_some hF
    obtain ⟨hi0, hi1, hex65⟩ := idxL_some hx
    refine st_val hS rfl rfl (by decide) (rv_indexAddr Try.underlying22 ty_el_3 (hS.ev rfl) (hS.ev rfl) (hM.get 1 rfl) hi0 (map_len hi1)) fun a hS => ?_
    refine st_val hS rfl rfl (by decide) (rv_load_el (hS.ev rfl) ty_ag_3 (hM.get 1 rfl) (mget hex65)) fun a hS => ?_
    refine st_val hS rfl rfl (by decide) (rv_or (hS.ev rfl) (hS.ev rfl)) fun a hS => ?_
    refine st_val hS rfl rfl (by decide) (rv_assign (hS.ev rfl)) fun a hS => ?_
    refine wpList_nil ?_
    refine hK57 _ _ ?_
    refine wp_region_lit ?_
    refine st_val hS rfl rfl (by decide) (rv_add (hS.ev rfl) (hS.ev rfl)) fun a hS => ?_
    refine st_val hS rfl rfl (by decide) (rv_move (hS.ev rfl)) fun a hS => ?_
    refine wpList_nil ?_
    cases hF
    exact hN2 _ _ _ rfl ⟨(hS.sub (sub_cons rfl (sub_cons rfl (sub_cons rfl (sub_cons rfl (sub_cons rfl sub_nil)))))), (hM.pick [0, 1, 2] (by decide) rfl)⟩
  · refine cond_f hS rfl hc ?_
    refine wp_exit ?_
    cases hF
    exact hJ1 x42 _ _ (hS.sub (sub_cons rfl sub_nil)) (hM.pick [] (by decide) rfl) (by have e := hX2 _ rfl; subst e; exact hF2)


theorem c_impl_partOf (F : Nat) (p0_g_Size : Int) (p0_g_Rows : List Int) (p1_set : Int) (p2_from : Int) (p0_g_Rowsv : Value) {r : Int} (hF : S_impl_partOf F p0_g_Size p0_g_Rows p1_set p2_from = some r) (w0 : World) (h0 : RdRow w0 p0_g_Rowsv (List.map (Value.int IntKind.i64) p0_g_Rows)) :
    Calls Try.prog 93 [(Value.agg #[(Value.int IntKind.i64 p0_g_Size), p0_g_Rowsv]), (Value.int IntKind.i64 p1_set), (Value.int IntKind.i64 p2_from)].toArray w0 (retPost fun v w' => v = (Value.int IntKind.i64 r) ∧ Mem Nob w0 w' []) := by
  have hM : Mem Nob w0 w0 [(false, rd p0_g_Rowsv (List.map (Value.int IntKind.i64) p0_g_Rows))] := (Mem.rcons (Mem.nil w0) h0 (by simp))
  refine enter2 Try.func93 rfl rfl rfl fun Q a hQr hQn hQp hS => ?_
  have hS : Sl 20 [(0, (Value.agg #[(Value.int IntKind.i64 p0_g_Size), p0_g_Rowsv])), (1, (Value.int IntKind.i64 p1_set)), (2, (Value.int IntKind.i64 p2_from))] a := hS
  unfold S_impl_partOf at hF
  refine wp_seq_k fun K1 hK1 => ?_
  refine wp_region_lit ?_
  obtain ⟨b3, w, hr, hM⟩ := hM.boxE (ρ := a.eval) (dst := some 3) (ty := _) (pos := _) (af := _) (gd := _) (x := .tmp 0) (T := 27) [(Value.int IntKind.i64 p0_g_Size), p0_g_Rowsv] (hS.ev rfl) rfl
  refine st_val hS rfl rfl (by decide) hr fun a hS => ?_
  refine st_val hS rfl rfl (by decide) (rv_assign (hS.ev rfl)) fun a hS => ?_
  refine wpList_nil ?_
  refine hK1 _ _ ?_
  refine wp_block ?_
  obtain ⟨lb1, hl1, hF1⟩ := bind_some hF
  refine wp_loop_sh (fun s => S_impl_partOf_l1 F p0_g_Size p0_g_Rows p1_set s) (fun s a w => Sl 20 [(1, (Value.int IntKind.i64 p1_set)), (2, (Value.int IntKind.i64 s)), (3, (fdp b3 0))] a ∧ Mem Nob w0 w [(true, bx b3 27 [(Value.int IntKind.i64 p0_g_Size), p0_g_Rowsv]), (false, rd p0_g_Rowsv (List.map (Value.int IntKind.i64) p0_g_Rows))]) hl1 ⟨(hS.sub (sub_cons rfl (sub_cons rfl (sub_cons rfl sub_nil)))), (hM.pick [0, 1] (by decide) rfl)⟩ ?_
  rintro K1 x4 a w res1 ⟨hS, hM⟩ hF hN1 hX1
  have hF : S_impl_partOf_l1 F p0_g_Size p0_g_Rows p1_set x4 = some res1 := hF
  have hS : Sl 20 [(1, (Value.int IntKind.i64 p1_set)), (2, (Value.int IntKind.i64 x4)), (3, (fdp b3 0))] a := hS
  have hM : Mem Nob w0 w [(true, bx b3 27 [(Value.int IntKind.i64 p0_g_Size), p0_g_Rowsv]), (false, rd p0_g_Rowsv (List.map (Value.int IntKind.i64) p0_g_Rows))] := hM
  unfold S_impl_partOf_l1 at hF
  refine wp_block ?_
  refine wp_seq_k fun K13 hK13 => ?_
  refine wp_region_lit ?_
  refine st_val hS rfl rfl (by decide) (rv_move (hS.ev rfl)) fun a hS => ?_
  refine st_val hS rfl rfl (by decide) (rv_load_agg (hS.ev rfl) ty_ag_27 (hM.get 0 rfl) ty_sz_27) fun a hS => ?_
  refine st_val hS rfl rfl (by decide) (rv_move (hS.ev rfl)) fun a hS => ?_
  obtain ⟨r15, hr, hF⟩ := bind_some hF
  refine st_wp hS rfl (wp_call hS rfl rfl (by decide) fn_ok_100 rfl (c_impl_neighbors F p0_g_Size p0_g_Rows x4 p0_g_Rowsv hr _ (hM.get 1 rfl)) fun v w a hK hS => ?_)
  obtain ⟨rfl, hN⟩ := hK
  have hM := hM.fra hN.fr
  refine st_val hS rfl rfl (by decide) (rv_or (hS.ev rfl) (hS.ev rfl)) fun a hS => ?_
  refine st_val hS rfl rfl (by decide) (rv_move (hS.ev rfl)) fun a hS => ?_
  refine st_val hS rfl rfl (by decide) (rv_and (hS.ev rfl) (hS.ev rfl)) fun a hS => ?_
  refine st_val hS rfl rfl (by decide) (rv_assign (hS.ev rfl)) fun a hS => ?_
  refine wpList_nil ?_
  refine hK13 _ _ ?_
  refine wp_seq_k fun K16 hK16 => ?_
  refine wp_seq_k fun K19 hK19 => ?_
  refine wp_region_lit ?_
  refine st_val hS rfl rfl (by decide) (rv_move (hS.ev rfl)) fun a hS => ?_
  refine st_val hS rfl rfl (by decide) (rv_move (hS.ev rfl)) fun a hS => ?_
  refine st_val hS rfl rfl (by decide) (rv_eql (hS.ev rfl) (hS.ev rfl)) fun a hS => ?_
  refine wpList_nil ?_
  refine hK19 _ _ ?_
  rcases ite_some hF with ⟨hc, hF⟩ | ⟨hc, hF⟩
  · refine cond_t hS rfl hc ?_
    refine wp_seq_k fun K20 hK20 => ?_
    refine wp_region_lit ?_
    refine st_val hS rfl rfl (by decide) (rv_move (hS.ev rfl)) fun a hS => ?_
    refine st_val hS rfl rfl (by decide) (rv_assign (hS.ev rfl)) fun a hS => ?_
    refine wpList_nil ?_
    refine hK20 _ _ ?_
    refine wp_ret ?_
    cases hF
    have e := hX1 _ rfl
    subst e
    have hF := hF1
    cases hF
    exact hQr _ _ (r_1 hS rfl rfl ⟨rfl, hM.pick [] (by decide) rfl⟩)
  · refine cond_f hS rfl hc ?_
    refine wp_skip ?_
    refine hK16 _ _ ?_
    refine wp_region_lit ?_
    refine st_val hS rfl rfl (by decide) (rv_move (hS.ev rfl)) fun a hS => ?_
    refine st_val hS rfl rfl (by decide) (rv_assign (hS.ev rfl)) fun a hS => ?_
    refine wpList_nil ?_
    cases hF
    exact hN1 _ _ _ rfl ⟨(hS.sub (sub_cons rfl (sub_cons rfl (sub_cons rfl sub_nil)))), (hM.pick [0, 1] (by decide) rfl)⟩


theorem c_impl_parts (F : Nat) (p0_g_Size : Int) (p0_g_Rows : List Int) (p1_set : Int) (p0_g_Rowsv : Value) {r : (List (Int))} (hF : S_impl_parts F p0_g_Size p0_g_Rows p1_set = some r) (w0 : World) (h0 : RdRow w0 p0_g_Rowsv (List.map (Value.int IntKind.i64) p0_g_Rows)) :
    Calls Try.prog 60 [(Value.agg #[(Value.int IntKind.i64 p0_g_Size), p0_g_Rowsv]), (Value.int IntKind.i64 p1_set)].toArray w0 (retPost fun v w' => Mem Nob w0 w' [(true, ow 3 v (List.map (Value.int IntKind.i64) r))]) := by
  have hM : Mem Nob w0 w0 [(false, rd p0_g_Rowsv (List.map (Value.int IntKind.i64) p0_g_Rows))] := (Mem.rcons (Mem.nil w0) h0 (by simp))
  refine enter2 Try.func60 rfl rfl rfl fun Q a hQr hQn hQp hS => ?_
  have hS : Sl 25 [(0, (Value.agg #[(Value.int IntKind.i64 p0_g_Size), p0_g_Rowsv])), (1, (Value.int IntKind.i64 p1_set))] a := hS
  unfold S_impl_parts at hF
  refine wp_seq_k fun K1 hK1 => ?_
  refine wp_region_lit ?_
  obtain ⟨b3, w, hr, hM⟩ := hM.boxE (ρ := a.eval) (dst := some 2) (ty := _) (pos := _) (af := _) (gd := _) (x := .tmp 0) (T := 27) [(Value.int IntKind.i64 p0_g_Size), p0_g_Rowsv] (hS.ev rfl) rfl
  refine st_val hS rfl rfl (by decide) hr fun a hS => ?_
  refine st_val hS rfl rfl (by decide) (rv_assign (hS.ev rfl)) fun a hS => ?_
  refine wpList_nil ?_
  refine hK1 _ _ ?_
  refine wp_seq_k fun K4 hK4 => ?_
  refine wp_region_lit ?_
  obtain ⟨v6, w, hr, hM⟩ := Mem.litE (f := (Value.int IntKind.i64)) (dst := some 7) (ty := _) (pos := _) (af := _) (gd := _) (ps := []) ([] : List (Int)) i64_one hM hS Try.underlying22 ty_el_3 rfl rfl rfl rfl
  refine st_val hS rfl rfl (by decide) hr fun a hS => ?_
  refine st_val hS rfl rfl (by decide) (rv_assign (hS.ev rfl)) fun a hS => ?_
  refine wpList_nil ?_
  refine hK4 _ _ ?_
  refine wp_seq_k fun K7 hK7 => ?_
  have hJ1 : ∀ (l34 : List Int) (v33 : Value) (a : Act) (w : World), Sl 25 [(5, v33)] a → Mem Nob w0 w [(true, ow 3 v33 (List.map (Value.int IntKind.i64) l34))] → S_impl_parts_j1 F l34 = some r → K7 a w := by
    intro l34 v33 a w hS hM hF
    unfold S_impl_parts_j1 at hF
    refine hK7 _ _ ?_
    refine wp_seq_k fun K35 hK35 => ?_
    refine wp_region_lit ?_
    refine st_val hS rfl rfl (by decide) (rv_move (hS.ev rfl)) fun a hS => ?_
    refine st_val hS rfl rfl (by decide) (rv_assign (hS.ev rfl)) fun a hS => ?_
    refine wpList_nil ?_
    refine hK35 _ _ ?_
    refine wp_ret ?_
    cases hF
    exact hQr _ _ (r_1 hS rfl rfl (hM.pick [0] (by decide) rfl))
  refine wp_block ?_
  obtain ⟨lb2, hl2, hF2⟩ := bind_some hF
  refine wp_loop_sh (fun s => S_impl_parts_l2 F p0_g_Size p0_g_Rows s.1 s.2) (fun s a w => ∃ (v37 : Value), Sl 25 [(1, (Value.int IntKind.i64 s.1)), (2, (fdp b3 0)), (5, v37)] a ∧ Mem Nob w0 w [(true, bx b3 27 [(Value.int IntKind.i64 p0_g_Size), p0_g_Rowsv]), (false, rd p0_g_Rowsv (List.map (Value.int IntKind.i64) p0_g_Rows)), (true, ow 3 v37 (List.map (Value.int IntKind.i64) s.2))]) hl2 ⟨v6, (hS.sub (sub_cons rfl (sub_cons rfl (sub_cons rfl sub_nil)))), (hM.pick [1, 2, 0] (by decide) rfl)⟩ ?_
  rintro K2 ⟨x36, l38⟩ a w res2 ⟨v37, hS, hM⟩ hF hN2 hX2
  have hF : S_impl_parts_l2 F p0_g_Size p0_g_Rows x36 l38 = some res2 := hF
  have hS : Sl 25 [(1, (Value.int IntKind.i64 x36)), (2, (fdp b3 0)), (5, v37)] a := hS
  have hM : Mem Nob w0 w [(true, bx b3 27 [(Value.int IntKind.i64 p0_g_Size), p0_g_Rowsv]), (false, rd p0_g_Rowsv (List.map (Value.int IntKind.i64) p0_g_Rows)), (true, ow 3 v37 (List.map (Value.int IntKind.i64) l38))] := hM
  unfold S_impl_parts_l2 at hF
  refine wp_seq_k fun K50 hK50 => ?_
  refine wp_seq_k fun K52 hK52 => ?_
  refine wp_region_lit ?_
  refine st_val hS rfl rfl (by decide) (rv_move (hS.ev rfl)) fun a hS => ?_
  refine st_val hS rfl rfl (by decide) (rv_neq (hS.ev rfl) (hS.ev rfl)) fun a hS => ?_
  refine wpList_nil ?_
  refine hK52 _ _ ?_
  rcases ite_some hF with ⟨hc, hF⟩ | ⟨hc, hF⟩
  · refine cond_t hS rfl hc ?_
    refine wp_skip ?_
    refine hK50 _ _ ?_
    refine wp_block ?_
    refine wp_seq_k fun K53 hK53 => ?_
    refine wp_region_lit ?_
    refine st_val hS rfl rfl (by decide) (rv_load_agg (hS.ev rfl) ty_ag_27 (hM.get 0 rfl) ty_sz_27) fun a hS => ?_
    refine st_val hS rfl rfl (by decide) (rv_move (hS.ev rfl)) fun a hS => ?_
    refine st_val hS rfl rfl (by decide) (rv_move (hS.ev rfl)) fun a hS => ?_
    refine st_val hS rfl rfl (by decide) (rv_move (hS.ev rfl)) fun a hS => ?_
    refine st_val hS rfl rfl (by decide) (rv_neg (hS.ev rfl)) fun a hS => ?_
    refine st_val hS rfl rfl (by decide) (rv_and (hS.ev rfl) (hS.ev rfl)) fun a hS => ?_
    obtain ⟨r55, hr, hF⟩ := bind_some hF
    refine st_wp hS rfl (wp_call hS rfl rfl (by decide) fn_ok_93 rfl (c_impl_partOf F p0_g_Size p0_g_Rows x36 (bAnd x36 (IntKind.i64.wrap (0 - x36))) p0_g_Rowsv hr _ (hM.get 1 rfl)) fun v w a hK hS => ?_)
    obtain ⟨rfl, hN⟩ := hK
    have hM := hM.fra hN.fr
    refine st_val hS rfl rfl (by decide) (rv_assign (hS.ev rfl)) fun a hS => ?_
    refine wpList_nil ?_
    refine hK53 _ _ ?_
    refine wp_seq_k fun K56 hK56 => ?_
    refine wp_region_lit ?_
    refine st_val hS rfl rfl (by decide) (rv_move (hS.ev rfl)) fun a hS => ?_
    refine st_val hS rfl rfl (by decide) (rv_move (hS.ev rfl)) fun a hS => ?_
    obtain ⟨v59, w, hr, hM⟩ := Mem.litE (f := (Value.int IntKind.i64)) (dst := some 19) (ty := _) (pos := _) (af := _) (gd := _) (ps := [(0, .tmp 18)]) ([r55] : List (Int)) i64_one hM hS Try.underlying22 ty_el_3 rfl rfl rfl rfl
    refine st_val hS rfl rfl (by decide) hr fun a hS => ?_
    obtain ⟨_, hx, hF⟩ := bind_some hF
    have hM := hM.pick [3, 0, 1, 2] (by decide) rfl
    obtain ⟨v60, w, hr, hM⟩ := Mem.appE (f := (Value.int IntKind.i64)) (S := _) (R := [(true, ow 3 v59 (List.map (Value.int IntKind.i64) ([r55] : List (Int)))), (true, bx b3 27 [(Value.int IntKind.i64 p0_g_Size), p0_g_Rowsv]), (false, rd p0_g_Rowsv (List.map (Value.int IntKind.i64) p0_g_Rows))]) (ρ := a.eval) (dst := some 20) (ty := _) (pos := _) (af := _) (gd := _) (x := .tmp 17) (y := .tmp 19) i64_one hM Try.underlying22 ty_el_3 rfl (by decide) (hS.ev rfl) (hS.ev rfl) (rd_of_ow (hM.get 1 rfl)) (catO_some hx)
    refine st_val hS rfl rfl (by decide) hr fun a hS => ?_
    refine st_val hS rfl rfl (by decide) (rv_assign (hS.ev rfl)) fun a hS => ?_
    refine wpList_nil ?_
    refine hK56 _ _ ?_
    refine wp_region_lit ?_
    refine st_val hS rfl rfl (by decide) (rv_move (hS.ev rfl)) fun a hS => ?_
    refine st_val hS rfl rfl (by decide) (rv_move (hS.ev rfl)) fun a hS => ?_
    refine st_val hS rfl rfl (by decide) (rv_andNot (hS.ev rfl) (hS.ev rfl)) fun a hS => ?_
    refine st_val hS rfl rfl (by decide) (rv_assign (hS.ev rfl)) fun a hS => ?_
    refine wpList_nil ?_
    cases hF
    exact hN2 _ _ _ rfl ⟨v60, (hS.sub (sub_cons rfl (sub_cons rfl (sub_cons rfl sub_nil)))), (hM.pick [2, 3, 0] (by decide) rfl)⟩
  · refine cond_f hS rfl hc ?_
    refine wp_exit ?_
    cases hF
    exact hJ1 l38 v37 _ _ (hS.sub (sub_cons rfl sub_nil)) (hM.pick [2] (by decide) rfl) (by have e := hX2 _ rfl; subst e; exact hF2)


theorem c_impl_all (F : Nat) (p0_g_Size : Int) (p0_g_Rows : List Int) (p0_g_Rowsv : Value) {r : Int} (hF : S_impl_all F p0_g_Size p0_g_Rows = some r) (w0 : World) (h0 : RdRow w0 p0_g_Rowsv (List.map (Value.int IntKind.i64) p0_g_Rows)) :
    Calls Try.prog 61 [(Value.agg #[(Value.int IntKind.i64 p0_g_Size), p0_g_Rowsv])].toArray w0 (retPost fun v w' => v = (Value.int IntKind.i64 r) ∧ Mem Nob w0 w' []) := by
  have hM : Mem Nob w0 w0 [(false, rd p0_g_Rowsv (List.map (Value.int IntKind.i64) p0_g_Rows))] := (Mem.rcons (Mem.nil w0) h0 (by simp))
  refine enter2 Try.func61 rfl rfl rfl fun Q a hQr hQn hQp hS => ?_
  have hS : Sl 7 [(0, (Value.agg #[(Value.int IntKind.i64 p0_g_Size), p0_g_Rowsv]))] a := hS
  unfold S_impl_all at hF
  refine wp_seq_k fun K1 hK1 => ?_
  refine wp_region_lit ?_
  obtain ⟨b3, w, hr, hM⟩ := hM.boxE (ρ := a.eval) (dst := some 1) (ty := _) (pos := _) (af := _) (gd := _) (x := .tmp 0) (T := 27) [(Value.int IntKind.i64 p0_g_Size), p0_g_Rowsv] (hS.ev rfl) rfl
  refine st_val hS rfl rfl (by decide) hr fun a hS => ?_
  refine st_val hS rfl rfl (by decide) (rv_assign (hS.ev rfl)) fun a hS => ?_
  refine wpList_nil ?_
  refine hK1 _ _ ?_
  refine wp_seq_k fun K4 hK4 => ?_
  refine wp_region_lit ?_
  refine st_val hS rfl rfl (by decide) (rv_fieldAddr ty_fd_27_0 (hS.ev rfl)) fun a hS => ?_
  refine st_val hS rfl rfl (by decide) (rv_load_bx (hS.ev rfl) ty_ag_3 (hM.get 0 rfl) rfl) fun a hS => ?_
  obtain ⟨_, hx, hF⟩ := bind_some hF
  have hi0 := nnO_some hx
  refine st_val hS rfl rfl (by decide) (rv_shl (hS.ev rfl) (hS.ev rfl) hi0) fun a hS => ?_
  refine st_val hS rfl rfl (by decide) (rv_sub (hS.ev rfl) (hS.ev rfl)) fun a hS => ?_
  refine st_val hS rfl rfl (by decide) (rv_assign (hS.ev rfl)) fun a hS => ?_
  refine wpList_nil ?_
  refine hK4 _ _ ?_
  refine wp_ret ?_
  cases hF
  exact hQr _ _ (r_1 hS rfl rfl ⟨rfl, hM.pick [] (by decide) rfl⟩)


theorem c_impl_IsConnected (F : Nat) (p0_g_Size : Int) (p0_g_Rows : List Int) (p0_g_Rowsv : Value) {r : Bool} (hF : S_impl_IsConnected F p0_g_Size p0_g_Rows = some r) (w0 : World) (h0 : RdRow w0 p0_g_Rowsv (List.map (Value.int IntKind.i64) p0_g_Rows)) :
    Calls Try.prog 28 [(Value.agg #[(Value.int IntKind.i64 p0_g_Size), p0_g_Rowsv])].toArray w0 (retPost fun v w' => v = (Value.bool r) ∧ Mem Nob w0 w' []) := by
  have hM : Mem Nob w0 w0 [(false, rd p0_g_Rowsv (List.map (Value.int IntKind.i64) p0_g_Rows))] := (Mem.rcons (Mem.nil w0) h0 (by simp))
  refine enter2 Try.func28 rfl rfl rfl fun Q a hQr hQn hQp hS => ?_
  have hS : Sl 13 [(0, (Value.agg #[(Value.int IntKind.i64 p0_g_Size), p0_g_Rowsv]))] a := hS
  unfold S_impl_IsConnected at hF
  refine wp_seq_k fun K1 hK1 => ?_
  refine wp_region_lit ?_
  obtain ⟨b3, w, hr, hM⟩ := hM.boxE (ρ := a.eval) (dst := some 1) (ty := _) (pos := _) (af := _) (gd := _) (x := .tmp 0) (T := 27) [(Value.int IntKind.i64 p0_g_Size), p0_g_Rowsv] (hS.ev rfl) rfl
  refine st_val hS rfl rfl (by decide) hr fun a hS => ?_
  refine st_val hS rfl rfl (by decide) (rv_assign (hS.ev rfl)) fun a hS => ?_
  refine wpList_nil ?_
  refine hK1 _ _ ?_
  refine wp_seq_k fun K4 hK4 => ?_
  have hJ1 : ∀ (p9 : Bool) (a : Act) (w : World), Sl 13 [(2, (Value.bool p9))] a → Mem Nob w0 w [] → S_impl_IsConnected_j1 F p9 = some r → K4 a w := by
    intro p9 a w hS hM hF
    unfold S_impl_IsConnected_j1 at hF
    refine hK4 _ _ ?_
    refine wp_ret ?_
    cases hF
    exact hQr _ _ (r_1 hS rfl rfl ⟨rfl, hM.pick [] (by decide) rfl⟩)
  refine an_start Nob ty_mixed fun w hf => ?_
  have hM := hM.fra hf
  have hB := hM
  have hM := hB.reg0
  refine an_take hS (i := 0) rfl (by kernel_rfl) (by kernel_rfl) (by kernel_rfl) rfl (by decide) (fun c a a' w hd h => hQp c a a' w hd h) rfl (fun w' hC' => (rv_load_agg (hS.ev rfl) ty_ag_27 ((hB.fra hC').get 0 rfl) ty_sz_27)) hM.fr fun a hS => ?_
  obtain ⟨r10, hr, hF⟩ := bind_some hF
  refine an_one hS (i := 1) rfl (by kernel_rfl) rfl ?_
  refine wp_call hS rfl rfl (by decide) fn_ok_54 rfl (c_impl_IsGraph F p0_g_Size p0_g_Rows p0_g_Rowsv hr _ (hM.get 1 rfl)) fun v w a hK hS => ?_
  obtain ⟨rfl, hN⟩ := hK
  have hM := hM.fra hN.fr
  refine ⟨hM.fr, ?_⟩
  refine an_take hS (i := 2) rfl (by kernel_rfl) (by kernel_rfl) (by kernel_rfl) rfl (by decide) (fun c a a' w hd h => hQp c a a' w hd h) rfl (fun w' hC' => (rv_move (hS.ev rfl))) hM.fr fun a hS => ?_
  rcases ite_some hF with ⟨hc, hF⟩ | ⟨hc, hF⟩
  · have hS := hS.setb (t := 5) rfl hc
    refine an_take hS (i := 3) rfl (by kernel_rfl) (by kernel_rfl) (by kernel_rfl) rfl (by decide) (fun c a a' w hd h => hQp c a a' w hd h) rfl (fun w' hC' => (rv_load_agg (hS.ev rfl) ty_ag_27 ((hB.fra hC').get 0 rfl) ty_sz_27)) hM.fr fun a hS => ?_
    refine an_take hS (i := 4) rfl (by kernel_rfl) (by kernel_rfl) (by kernel_rfl) rfl (by decide) (fun c a a' w hd h => hQp c a a' w hd h) rfl (fun w' hC' => (rv_load_agg (hS.ev rfl) ty_ag_27 ((hB.fra hC').get 0 rfl) ty_sz_27)) hM.fr fun a hS => ?_
    obtain ⟨r11, hr, hF⟩ := bind_some hF
    refine an_one hS (i := 5) rfl (by kernel_rfl) rfl ?_
    refine wp_call hS rfl rfl (by decide) fn_ok_61 rfl (c_impl_all F p0_g_Size p0_g_Rows p0_g_Rowsv hr _ (hM.get 1 rfl)) fun v w a hK hS => ?_
    obtain ⟨rfl, hN⟩ := hK
    have hM := hM.fra hN.fr
    refine ⟨hM.fr, ?_⟩
    obtain ⟨r12, hr, hF⟩ := bind_some hF
    refine an_one hS (i := 6) rfl (by kernel_rfl) rfl ?_
    refine wp_call hS rfl rfl (by decide) fn_ok_60 rfl (c_impl_parts F p0_g_Size p0_g_Rows r11 p0_g_Rowsv hr _ (hM.get 1 rfl)) fun v13 w a hK hS => ?_
    have hN := hK
    have hM := hM.add hN rfl
    refine ⟨hM.fr, ?_⟩
    refine an_take hS (i := 7) rfl (by kernel_rfl) (by kernel_rfl) (by kernel_rfl) rfl (by decide) (fun c a a' w hd h => hQp c a a' w hd h) rfl (fun w' hC' => (rv_len_rowM Try.underlying22 (hS.ev rfl) (rd_of_ow (hM.get 0 rfl)))) hM.fr fun a hS => ?_
    refine an_take hS (i := 8) rfl (by kernel_rfl) (by kernel_rfl) (by kernel_rfl) rfl (by decide) (fun c a a' w hd h => hQp c a a' w hd h) rfl (fun w' hC' => (rv_eql (hS.ev rfl) (hS.ev rfl))) hM.fr fun a hS => ?_
    refine an_take hS (i := 9) rfl (by kernel_rfl) (by kernel_rfl) (by kernel_rfl) rfl (by decide) (fun c a a' w hd h => hQp c a a' w hd h) rfl (fun w' hC' => (rv_pick_t (hS.ev rfl) (hS.ev rfl))) hM.fr fun a hS => ?_
    refine an_take hS (i := 10) rfl (by kernel_rfl) (by kernel_rfl) (by kernel_rfl) rfl (by decide) (fun c a a' w hd h => hQp c a a' w hd h) rfl (fun w' hC' => (rv_assign (hS.ev rfl))) hM.fr fun a hS => ?_
    refine an_done (by kernel_rfl) ?_
    have hN := hM.pick [0] (by decide) rfl
    have hM := Mem.callo (A := []) (B := [(true, bx b3 27 [(Value.int IntKind.i64 p0_g_Size), p0_g_Rowsv]), (false, rd p0_g_Rowsv (List.map (Value.int IntKind.i64) p0_g_Rows))]) hB rfl (hN.memS fun _ h => h.elim) rfl
    exact hJ1 ((r12.length : Int) == 1) _ _ (hS.sub (sub_cons rfl sub_nil)) (hM.pick [] (by decide) rfl) hF
  · have hS := hS.setb (t := 5) rfl hc
    refine an_skip hS (i := 3) rfl (by kernel_rfl) (by kernel_rfl) (by kernel_rfl) rfl (by decide) (fun c a a' w hd h => hQp c a a' w hd h) rfl hM.fr fun a hS => ?_
    refine an_skip hS (i := 4) rfl (by kernel_rfl) (by kernel_rfl) (by kernel_rfl) rfl (by decide) (fun c a a' w hd h => hQp c a a' w hd h) rfl hM.fr fun a hS => ?_
    refine an_skip hS (i := 5) rfl (by kernel_rfl) (by kernel_rfl) (by kernel_rfl) rfl (by decide) (fun c a a' w hd h => hQp c a a' w hd h) rfl hM.fr fun a hS => ?_
    refine an_skip hS (i := 6) rfl (by kernel_rfl) (by kernel_rfl) (by kernel_rfl) rfl (by decide) (fun c a a' w hd h => hQp c a a' w hd h) rfl hM.fr fun a hS => ?_
    refine an_skip hS (i := 7) rfl (by kernel_rfl) (by kernel_rfl) (by kernel_rfl) rfl (by decide) (fun c a a' w hd h => hQp c a a' w hd h) rfl hM.fr fun a hS => ?_
    refine an_skip hS (i := 8) rfl (by kernel_rfl) (by kernel_rfl) (by kernel_rfl) rfl (by decide) (fun c a a' w hd h => hQp c a a' w hd h) rfl hM.fr fun a hS => ?_
    refine an_take hS (i := 9) rfl (by kernel_rfl) (by kernel_rfl) (by kernel_rfl) rfl (by decide) (fun c a a' w hd h => hQp c a a' w hd h) rfl (fun w' hC' => (rv_pick_f (hS.ev rfl) (hS.ev rfl))) hM.fr fun a hS => ?_
    refine an_take hS (i := 10) rfl (by kernel_rfl) (by kernel_rfl) (by kernel_rfl) rfl (by decide) (fun c a a' w hd h => hQp c a a' w hd h) rfl (fun w' hC' => (rv_assign (hS.ev rfl))) hM.fr fun a hS => ?_
    refine an_done (by kernel_rfl) ?_
    have hN := hM.pick [] (by decide) rfl
    have hM := Mem.callo (A := []) (B := [(true, bx b3 27 [(Value.int IntKind.i64 p0_g_Size), p0_g_Rowsv]), (false, rd p0_g_Rowsv (List.map (Value.int IntKind.i64) p0_g_Rows))]) hB rfl (hN.memS fun _ h => h.elim) rfl
    exact hJ1 false _ _ (hS.sub (sub_cons rfl sub_nil)) (hM.pick [] (by decide) rfl) hF


theorem c_laws_FnExactIsConnected (F : Nat) (p0_aG_Size : Int) (p0_aG_Rows : List Int) (p0_aG_Rowsv : Value) {r : Bool} (hF : S_laws_FnExactIsConnected F p0_aG_Size p0_aG_Rows = some r) (w0 : World) (h0 : RdRow w0 p0_aG_Rowsv (List.map (Value.int IntKind.i64) p0_aG_Rows)) :
    Calls Try.prog 5 [(Value.agg #[(Value.int IntKind.i64 p0_aG_Size), p0_aG_Rowsv])].toArray w0 (retPost fun v w' => v = (Value.bool r) ∧ Mem Nob w0 w' []) := by
  have hM : Mem Nob w0 w0 [(false, rd p0_aG_Rowsv (List.map (Value.int IntKind.i64) p0_aG_Rows))] := (Mem.rcons (Mem.nil w0) h0 (by simp))
  refine enter2 Try.func5 rfl rfl rfl fun Q a hQr hQn hQp hS => ?_
  have hS : Sl 27 [(0, (Value.agg #[(Value.int IntKind.i64 p0_aG_Size), p0_aG_Rowsv]))] a := hS
  unfold S_laws_FnExactIsConnected at hF
  refine wp_seq_k fun K1 hK1 => ?_
  refine wp_region_lit ?_
  obtain ⟨b3, w, hr, hM⟩ := hM.boxE (ρ := a.eval) (dst := some 1) (ty := _) (pos := _) (af := _) (gd := _) (x := .tmp 0) (T := 24) [(Value.int IntKind.i64 p0_aG_Size), p0_aG_Rowsv] (hS.ev rfl) rfl
  refine st_val hS rfl rfl (by decide) hr fun a hS => ?_
  refine st_val hS rfl rfl (by decide) (rv_assign (hS.ev rfl)) fun a hS => ?_
  refine wpList_nil ?_
  refine hK1 _ _ ?_
  refine wp_seq_k fun K4 hK4 => ?_
  refine wp_region_lit ?_
  refine st_val hS rfl rfl (by decide) (rv_assign (hS.ev rfl)) fun a hS => ?_
  refine wpList_nil ?_
  refine hK4 _ _ ?_
  refine wp_seq_k fun K5 hK5 => ?_
  refine wp_region_lit ?_
  refine st_val hS rfl rfl (by decide) (rv_load_agg (hS.ev rfl) ty_ag_24 (hM.get 0 rfl) ty_sz_24) fun a hS => ?_
  refine st_val hS rfl rfl (by decide) (rv_move (hS.ev rfl)) fun a hS => ?_
  obtain ⟨r7, hr, hF⟩ := bind_some hF
  refine st_wp hS rfl (wp_call hS rfl rfl (by decide) fn_ok_15 rfl (c_laws_szGraph F p0_aG_Size p0_aG_Rows 1048576 p0_aG_Rowsv hr _ (hM.get 1 rfl)) fun v w a hK hS => ?_)
  obtain ⟨rfl, hN⟩ := hK
  have hM := hM.fra hN.fr
  refine st_val hS rfl rfl (by decide) (rv_assign (hS.ev rfl)) fun a hS => ?_
  refine wpList_nil ?_
  refine hK5 _ _ ?_
  refine wp_seq_k fun K8 hK8 => ?_
  refine wp_seq_k fun K11 hK11 => ?_
  refine wp_region_lit ?_
  refine st_val hS rfl rfl (by decide) (rv_move (hS.ev rfl)) fun a hS => ?_
  refine st_val hS rfl rfl (by decide) (rv_lss (hS.ev rfl) (hS.ev rfl)) fun a hS => ?_
  refine wpList_nil ?_
  refine hK11 _ _ ?_
  rcases ite_some hF with ⟨hc, hF⟩ | ⟨hc, hF⟩
  · refine cond_t hS rfl hc ?_
    refine wp_seq_k fun K12 hK12 => ?_
    refine wp_region_lit ?_
    refine st_val hS rfl rfl (by decide) (rv_assign (hS.ev rfl)) fun a hS => ?_
    refine wpList_nil ?_
    refine hK12 _ _ ?_
    refine wp_ret ?_
    cases hF
    exact hQr _ _ (r_1 hS rfl rfl ⟨rfl, hM.pick [] (by decide) rfl⟩)
  · refine cond_f hS rfl hc ?_
    refine wp_skip ?_
    refine hK8 _ _ ?_
    refine wp_seq_k fun K13 hK13 => ?_
    refine wp_region_lit ?_
    refine st_val hS rfl rfl (by decide) (rv_load_agg (hS.ev rfl) ty_ag_24 (hM.get 0 rfl) ty_sz_24) fun a hS => ?_
    obtain ⟨r17, hr, hF⟩ := bind_some hF
    refine st_wp hS rfl (wp_call hS rfl rfl (by decide) fn_ok_17 rfl (c_laws_toGraph F p0_aG_Size p0_aG_Rows p0_aG_Rowsv hr _ (hM.get 1 rfl)) fun v w a hK hS => ?_)
    obtain ⟨v18, rfl, hN⟩ := hK
    have hM := hM.add hN rfl
    obtain ⟨r19, hr, hF⟩ := bind_some hF
    refine st_wp hS rfl (wp_call hS rfl rfl (by decide) fn_ok_27 rfl (c_spec_IsConnected F r17.1 r17.2 v18 hr _ (rd_of_ow (hM.get 0 rfl))) fun v w a hK hS => ?_)
    obtain ⟨rfl, hN⟩ := hK
    have hM := hM.fra hN.fr
    refine st_val hS rfl rfl (by decide) (rv_assign (hS.ev rfl)) fun a hS => ?_
    refine wpList_nil ?_
    refine hK13 _ _ ?_
    refine wp_seq_k fun K20 hK20 => ?_
    refine wp_region_lit ?_
    refine st_val hS rfl rfl (by decide) (rv_load_agg (hS.ev rfl) ty_ag_24 (hM.get 1 rfl) ty_sz_24) fun a hS => ?_
    obtain ⟨r24, hr, hF⟩ := bind_some hF
    refine st_wp hS rfl (wp_call hS rfl rfl (by decide) fn_ok_17 rfl (c_laws_toGraph F p0_aG_Size p0_aG_Rows p0_aG_Rowsv hr _ (hM.get 2 rfl)) fun v w a hK hS => ?_)
    obtain ⟨v25, rfl, hN⟩ := hK
    have hM := hM.add hN rfl
    obtain ⟨b26, w, hr, hM⟩ := hM.allocE (ρ := a.eval) (dst := some 5) (ty := _) (pos := _) (af := _) (gd := _) (T := 27) (P := Try.prog) [(Value.int IntKind.i64 0), (Value.slice none 0 0)] ty_zr_27 rfl
    refine st_val hS rfl rfl (by decide) hr fun a hS => ?_
    have hM := hM.addNil 3
    have hM := hM.pick [1, 0, 2, 3, 4, 5] (by decide) rfl
    obtain ⟨w, hr, hM⟩ := hM.st_agg (us := [(Value.int IntKind.i64 r24.1), v25]) (ρ := a.eval) (dst := none) (ty := _) (pos := _) (af := _) (gd := _) (x := .tmp 5) (y := .tmp 16) (hS.ev rfl) (hS.ev rfl) ty_sz_27 (all1_cons rfl (all1_cons (rd_one (rd_of_ow (hM.get 2 rfl))) all1_nil)) rfl
    refine st_unit hS rfl rfl hr ?_
    refine wpList_nil ?_
    refine hK20 _ _ ?_
    refine wp_seq_k fun K27 hK27 => ?_
    refine wp_region_lit ?_
    refine st_val hS rfl rfl (by decide) (rv_load_agg (hS.ev rfl) ty_ag_27 (hM.get 0 rfl) ty_sz_27) fun a hS => ?_
    obtain ⟨r29, hr, hF⟩ := bind_some hF
    refine st_wp hS rfl (wp_call hS rfl rfl (by decide) fn_ok_28 rfl (c_impl_IsConnected F r24.1 r24.2 v25 hr _ (rd_of_ow (hM.get 2 rfl))) fun v w a hK hS => ?_)
    obtain ⟨rfl, hN⟩ := hK
    have hM := hM.fra hN.fr
    refine st_val hS rfl rfl (by decide) (rv_assign (hS.ev rfl)) fun a hS => ?_
    refine wpList_nil ?_
    refine hK27 _ _ ?_
    refine wp_seq_k fun K30 hK30 => ?_
    refine wp_seq_k fun K33 hK33 => ?_
    refine wp_region_lit ?_
    refine st_val hS rfl rfl (by decide) (rv_move (hS.ev rfl)) fun a hS => ?_
    refine st_val hS rfl rfl (by decide) (rv_move (hS.ev rfl)) fun a hS => ?_
    refine st_val hS rfl rfl (by decide) (rv_bneq Try.underlying4 (hS.ev rfl) (hS.ev rfl)) fun a hS => ?_
    refine wpList_nil ?_
    refine hK33 _ _ ?_
    rcases ite_some hF with ⟨hc, hF⟩ | ⟨hc, hF⟩
    · refine cond_t hS rfl hc ?_
      refine wp_seq_k fun K34 hK34 => ?_
      refine wp_region_lit ?_
      refine st_val hS rfl rfl (by decide) (rv_assign (hS.ev rfl)) fun a hS => ?_
      refine wpList_nil ?_
      refine hK34 _ _ ?_
      refine wp_ret ?_
      cases hF
      exact hQr _ _ (r_1 hS rfl rfl ⟨rfl, hM.pick [] (by decide) rfl⟩)
    · refine cond_f hS rfl hc ?_
      refine wp_skip ?_
      refine hK30 _ _ ?_
      refine wp_seq_k fun K35 hK35 => ?_
      refine wp_seq_k fun K44 hK44 => ?_
      refine an_start Nob ty_mixed fun w hf => ?_
      have hM := hM.fra hf
      have hB := hM
      have hM := hB.reg0
      refine an_take hS (i := 0) rfl (by kernel_rfl) (by kernel_rfl) (by kernel_rfl) rfl (by decide) (fun c a a' w hd h => hQp c a a' w hd h) rfl (fun w' hC' => (rv_load_agg (hS.ev rfl) ty_ag_27 ((hB.fra hC').get 0 rfl) ty_sz_27)) hM.fr fun a hS => ?_
      refine an_take hS (i := 1) rfl (by kernel_rfl) (by kernel_rfl) (by kernel_rfl) rfl (by decide) (fun c a a' w hd h => hQp c a a' w hd h) rfl (fun w' hC' => (rv_load_agg (hS.ev rfl) ty_ag_24 ((hB.fra hC').get 4 rfl) ty_sz_24)) hM.fr fun a hS => ?_
      obtain ⟨r48, hr, hF⟩ := bind_some hF
      refine an_one hS (i := 2) rfl (by kernel_rfl) rfl ?_
      refine wp_call hS rfl rfl (by decide) fn_ok_17 rfl (c_laws_toGraph F p0_aG_Size p0_aG_Rows p0_aG_Rowsv hr _ (hM.get 5 rfl)) fun v w a hK hS => ?_
      obtain ⟨v49, rfl, hN⟩ := hK
      have hM := hM.add hN rfl
      refine ⟨hM.fr, ?_⟩
      obtain ⟨r50, hr, hF⟩ := bind_some hF
      refine an_one hS (i := 3) rfl (by kernel_rfl) rfl ?_
      refine wp_call hS rfl rfl (by decide) fn_ok_20 rfl (c_laws_eqGraph F r24.1 r24.2 r48.1 r48.2 v25 v49 hr _ (rd_of_ow (hM.get 3 rfl)) (rd_of_ow (hM.get 0 rfl))) fun v w a hK hS => ?_
      obtain ⟨rfl, hN⟩ := hK
      have hM := hM.fra hN.fr
      refine ⟨hM.fr, ?_⟩
      refine an_take hS (i := 4) rfl (by kernel_rfl) (by kernel_rfl) (by kernel_rfl) rfl (by decide) (fun c a a' w hd h => hQp c a a' w hd h) rfl (fun w' hC' => (rv_not (hS.ev rfl))) hM.fr fun a hS => ?_
      refine an_done (by kernel_rfl) ?_
      have hN := hM.pick [0] (by decide) rfl
      have hM := Mem.callo (A := []) (B := [(true, bx b26 27 [(Value.int IntKind.i64 r24.1), v25]), (true, ow 3 (Value.slice none 0 0) (List.map (Value.int IntKind.i64) ([] : List (Int)))), (true, ow 3 v25 (List.map (Value.int IntKind.i64) r24.2)), (true, ow 3 v18 (List.map (Value.int IntKind.i64) r17.2)), (true, bx b3 24 [(Value.int IntKind.i64 p0_aG_Size), p0_aG_Rowsv]), (false, rd p0_aG_Rowsv (List.map (Value.int IntKind.i64) p0_aG_Rows))]) hB rfl (hN.memS fun _ h => h.elim) rfl
      refine hK44 _ _ ?_
      rcases ite_some hF with ⟨hc, hF⟩ | ⟨hc, hF⟩
      · refine cond_t hS rfl hc ?_
        refine wp_seq_k fun K51 hK51 => ?_
        refine wp_region_lit ?_
        refine st_val hS rfl rfl (by decide) (rv_assign (hS.ev rfl)) fun a hS => ?_
        refine wpList_nil ?_
        refine hK51 _ _ ?_
        refine wp_ret ?_
        cases hF
        exact hQr _ _ (r_1 hS rfl rfl ⟨rfl, hM.pick [] (by decide) rfl⟩)
      · refine cond_f hS rfl hc ?_
        refine wp_skip ?_
        refine hK35 _ _ ?_
        refine wp_seq_k fun K52 hK52 => ?_
        refine wp_region_lit ?_
        refine st_val hS rfl rfl (by decide) (rv_assign (hS.ev rfl)) fun a hS => ?_
        refine wpList_nil ?_
        refine hK52 _ _ ?_
        refine wp_ret ?_
        cases hF
        exact hQr _ _ (r_1 hS rfl rfl ⟨rfl, hM.pick [] (by decide) rfl⟩)


end Go.Proofs.Ytnlabnkgcncmlaa
