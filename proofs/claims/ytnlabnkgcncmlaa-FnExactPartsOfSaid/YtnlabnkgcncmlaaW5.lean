/- Proved here: that each Go function does what its shallow function says -/
import Derived.Test.YtnlabnkgcncmlaaSh
import Derived.Test.YtnlabnkgcncmlaaTy
import Derived.Test.YtnlabnkgcncmlaaK9
import Derived.Test.YtnlabnkgcncmlaaW0
import Derived.Test.YtnlabnkgcncmlaaW1
import Derived.Test.YtnlabnkgcncmlaaW3
namespace Go.Proofs.Ytnlabnkgcncmlaa
open Go Go.RowKit
set_option linter.unusedVariables false
set_option linter.unusedSimpArgs false
set_option maxRecDepth 100000
set_option maxHeartbeats 4000000

theorem c_spec_EliminationOf (F : Nat) (p0_g_Size : Int) (p0_g_Rows : List Int) (p0_g_Rowsv : Value) {r : (List (Int)) × Bool} (hF : S_spec_EliminationOf F p0_g_Size p0_g_Rows = some r) (w0 : World) (h0 : RdRow w0 p0_g_Rowsv (List.map (Value.int IntKind.i64) p0_g_Rows)) :
    Calls Try.prog 38 [(Value.agg #[(Value.int IntKind.i64 p0_g_Size), p0_g_Rowsv])].toArray w0 (retPost fun v w' => ∃ v339, v = (Value.tuple #[v339, (Value.bool r.2)]) ∧ Mem Nob w0 w' [(true, ow 3 v339 (List.map (Value.int IntKind.i64) r.1))]) := by
  have hM : Mem Nob w0 w0 [(false, rd p0_g_Rowsv (List.map (Value.int IntKind.i64) p0_g_Rows))] := (Mem.rcons (Mem.nil w0) h0 (by simp))
  refine enter2 Try.func38 rfl rfl rfl fun Q a hQr hQn hQp hS => ?_
  have hS : Sl 50 [(0, (Value.agg #[(Value.int IntKind.i64 p0_g_Size), p0_g_Rowsv]))] a := hS
  unfold S_spec_EliminationOf at hF
  refine wp_seq_k fun K1 hK1 => ?_
  refine wp_region_lit ?_
  obtain ⟨b3, w, hr, hM⟩ := hM.boxE (ρ := a.eval) (dst := some 1) (ty := _) (pos := _) (af := _) (gd := _) (x := .tmp 0) (T := 27) [(Value.int IntKind.i64 p0_g_Size), p0_g_Rowsv] (hS.ev rfl) rfl
  refine st_val hS rfl rfl (by decide) hr fun a hS => ?_
  refine st_val hS rfl rfl (by decide) (rv_assign (hS.ev rfl)) fun a hS => ?_
  refine st_val hS rfl rfl (by decide) (rv_assign (hS.ev rfl)) fun a hS => ?_
  refine wpList_nil ?_
  refine hK1 _ _ ?_
  refine wp_seq_k fun K4 hK4 => ?_
  refine wp_region_lit ?_
  obtain ⟨v6, w, hr, hM⟩ := Mem.litE (f := (Value.int IntKind.i64)) (dst := some 8) (ty := _) (pos := _) (af := _) (gd := _) (ps := []) ([] : List (Int)) i64_one hM hS Try.underlying22 ty_el_3 rfl rfl rfl rfl
  refine st_val hS rfl rfl (by decide) hr fun a hS => ?_
  refine st_val hS rfl rfl (by decide) (rv_assign (hS.ev rfl)) fun a hS => ?_
  refine wpList_nil ?_
  refine hK4 _ _ ?_
  refine wp_seq_k fun K7 hK7 => ?_
  refine wp_seq_k fun K12 hK12 => ?_
  refine wp_region_lit ?_
  refine st_val hS rfl rfl (by decide) (rv_load_agg (hS.ev rfl) ty_ag_27 (hM.get 1 rfl) ty_sz_27) fun a hS => ?_
  obtain ⟨r14, hr, hF⟩ := bind_some hF
  refine st_wp hS rfl (wp_call hS rfl rfl (by decide) fn_ok_52 rfl (c_spec_IsGraph F p0_g_Size p0_g_Rows p0_g_Rowsv hr _ (hM.get 2 rfl)) fun v w a hK hS => ?_)
  obtain ⟨rfl, hN⟩ := hK
  have hM := hM.fra hN.fr
  refine st_val hS rfl rfl (by decide) (rv_not (hS.ev rfl)) fun a hS => ?_
  refine wpList_nil ?_
  refine hK12 _ _ ?_
  rcases ite_some hF with ⟨hc, hF⟩ | ⟨hc, hF⟩
  · refine cond_t hS rfl hc ?_
    refine wp_seq_k fun K15 hK15 => ?_
    refine wp_region_lit ?_
    refine st_val hS rfl rfl (by decide) (rv_move (hS.ev rfl)) fun a hS => ?_
    refine st_val hS rfl rfl (by decide) (rv_assign (hS.ev rfl)) fun a hS => ?_
    refine st_val hS rfl rfl (by decide) (rv_assign (hS.ev rfl)) fun a hS => ?_
    refine wpList_nil ?_
    refine hK15 _ _ ?_
    refine wp_ret ?_
    cases hF
    exact hQr _ _ (r_2 hS rfl rfl rfl ⟨v6, rfl, hM.pick [0] (by decide) rfl⟩)
  · refine cond_f hS rfl hc ?_
    refine wp_skip ?_
    refine hK7 _ _ ?_
    refine wp_seq_k fun K16 hK16 => ?_
    refine wp_region_lit ?_
    refine st_val hS rfl rfl (by decide) (rv_fieldAddr ty_fd_27_0 (hS.ev rfl)) fun a hS => ?_
    refine st_val hS rfl rfl (by decide) (rv_load_bx (hS.ev rfl) ty_ag_3 (hM.get 1 rfl) rfl) fun a hS => ?_
    obtain ⟨_, hx, hF⟩ := bind_some hF
    have hi0 := nnO_some hx
    refine st_val hS rfl rfl (by decide) (rv_shl (hS.ev rfl) (hS.ev rfl) hi0) fun a hS => ?_
    refine st_val hS rfl rfl (by decide) (rv_sub (hS.ev rfl) (hS.ev rfl)) fun a hS => ?_
    refine st_val hS rfl rfl (by decide) (rv_assign (hS.ev rfl)) fun a hS => ?_
    refine wpList_nil ?_
    refine hK16 _ _ ?_
    refine wp_seq_k fun K17 hK17 => ?_
    have hJ1 : ∀ (l178 : List Int) (v177 : Value) (a : Act) (w : World), Sl 50 [(4, v177)] a → Mem Nob w0 w [(true, ow 3 v177 (List.map (Value.int IntKind.i64) l178))] → S_spec_EliminationOf_j1 F l178 = some r → K17 a w := by
      intro l178 v177 a w hS hM hF
      unfold S_spec_EliminationOf_j1 at hF
      refine hK17 _ _ ?_
      refine wp_seq_k fun K179 hK179 => ?_
      refine wp_region_lit ?_
      refine st_val hS rfl rfl (by decide) (rv_move (hS.ev rfl)) fun a hS => ?_
      refine st_val hS rfl rfl (by decide) (rv_assign (hS.ev rfl)) fun a hS => ?_
      refine st_val hS rfl rfl (by decide) (rv_assign (hS.ev rfl)) fun a hS => ?_
      refine wpList_nil ?_
      refine hK179 _ _ ?_
      refine wp_ret ?_
      cases hF
      exact hQr _ _ (r_2 hS rfl rfl rfl ⟨v177, rfl, hM.pick [0] (by decide) rfl⟩)
    refine wp_block ?_
    obtain ⟨lb2, hl2, hF2⟩ := bind_some hF
    refine wp_loop_sh (fun s => S_spec_EliminationOf_l2 F p0_g_Size p0_g_Rows s.1 s.2) (fun s a w => ∃ (v180 : Value), Sl 50 [(1, (fdp b3 0)), (4, v180), (5, (Value.int IntKind.i64 s.2))] a ∧ Mem Nob w0 w [(true, bx b3 27 [(Value.int IntKind.i64 p0_g_Size), p0_g_Rowsv]), (false, rd p0_g_Rowsv (List.map (Value.int IntKind.i64) p0_g_Rows)), (true, ow 3 v180 (List.map (Value.int IntKind.i64) s.1))]) hl2 ⟨v6, (hS.sub (sub_cons rfl (sub_cons rfl (sub_cons rfl sub_nil)))), (hM.pick [1, 2, 0] (by decide) rfl)⟩ ?_
    rintro K2 ⟨l181, x182⟩ a w res2 ⟨v180, hS, hM⟩ hF hN2 hX2
    have hF : S_spec_EliminationOf_l2 F p0_g_Size p0_g_Rows l181 x182 = some res2 := hF
    have hS : Sl 50 [(1, (fdp b3 0)), (4, v180), (5, (Value.int IntKind.i64 x182))] a := hS
    have hM : Mem Nob w0 w [(true, bx b3 27 [(Value.int IntKind.i64 p0_g_Size), p0_g_Rowsv]), (false, rd p0_g_Rowsv (List.map (Value.int IntKind.i64) p0_g_Rows)), (true, ow 3 v180 (List.map (Value.int IntKind.i64) l181))] := hM
    unfold S_spec_EliminationOf_l2 at hF
    refine wp_seq_k fun K261 hK261 => ?_
    refine wp_seq_k fun K263 hK263 => ?_
    refine wp_region_lit ?_
    refine st_val hS rfl rfl (by decide) (rv_move (hS.ev rfl)) fun a hS => ?_
    refine st_val hS rfl rfl (by decide) (rv_gtr (hS.ev rfl) (hS.ev rfl)) fun a hS => ?_
    refine wpList_nil ?_
    refine hK263 _ _ ?_
    rcases ite_some hF with ⟨hc, hF⟩ | ⟨hc, hF⟩
    · refine cond_t hS rfl hc ?_
      refine wp_skip ?_
      refine hK261 _ _ ?_
      refine wp_block ?_
      refine wp_seq_k fun K264 hK264 => ?_
      refine wp_region_lit ?_
      refine st_val hS rfl rfl (by decide) (rv_assign (hS.ev rfl)) fun a hS => ?_
      refine wpList_nil ?_
      refine hK264 _ _ ?_
      refine wp_seq_k fun K265 hK265 => ?_
      have hJ3 : ∀ (x295 : Int) (a : Act) (w : World), Sl 50 [(1, (fdp b3 0)), (4, v180), (5, (Value.int IntKind.i64 x182)), (6, (Value.int IntKind.i64 x295))] a → Mem Nob w0 w [(true, bx b3 27 [(Value.int IntKind.i64 p0_g_Size), p0_g_Rowsv]), (false, rd p0_g_Rowsv (List.map (Value.int IntKind.i64) p0_g_Rows)), (true, ow 3 v180 (List.map (Value.int IntKind.i64) l181))] → S_spec_EliminationOf_j3 F l181 x182 x295 = some res2 → K265 a w := by
        intro x295 a w hS hM hF
        unfold S_spec_EliminationOf_j3 at hF
        refine hK265 _ _ ?_
        refine wp_seq_k fun K296 hK296 => ?_
        refine wp_seq_k fun K301 hK301 => ?_
        refine wp_region_lit ?_
        refine st_val hS rfl rfl (by decide) (rv_move (hS.ev rfl)) fun a hS => ?_
        refine st_val hS rfl rfl (by decide) (rv_lss (hS.ev rfl) (hS.ev rfl)) fun a hS => ?_
        refine wpList_nil ?_
        refine hK301 _ _ ?_
        rcases ite_some hF with ⟨hc, hF⟩ | ⟨hc, hF⟩
        · refine cond_t hS rfl hc ?_
          refine wp_seq_k fun K302 hK302 => ?_
          refine wp_region_lit ?_
          obtain ⟨v304, w, hr, hM⟩ := Mem.litE (f := (Value.int IntKind.i64)) (dst := some 40) (ty := _) (pos := _) (af := _) (gd := _) (ps := []) ([] : List (Int)) i64_one hM hS Try.underlying22 ty_el_3 rfl rfl rfl rfl
          refine st_val hS rfl rfl (by decide) hr fun a hS => ?_
          refine st_val hS rfl rfl (by decide) (rv_assign (hS.ev rfl)) fun a hS => ?_
          refine st_val hS rfl rfl (by decide) (rv_assign (hS.ev rfl)) fun a hS => ?_
          refine wpList_nil ?_
          refine hK302 _ _ ?_
          refine wp_ret ?_
          cases hF
          have e := hX2 _ rfl
          subst e
          have hF := hF2
          cases hF
          exact hQr _ _ (r_2 hS rfl rfl rfl ⟨v304, rfl, hM.pick [0] (by decide) rfl⟩)
        · refine cond_f hS rfl hc ?_
          refine wp_skip ?_
          refine hK296 _ _ ?_
          refine wp_seq_k fun K305 hK305 => ?_
          refine wp_region_lit ?_
          refine st_val hS rfl rfl (by decide) (rv_move (hS.ev rfl)) fun a hS => ?_
          refine st_val hS rfl rfl (by decide) (rv_move (hS.ev rfl)) fun a hS => ?_
          obtain ⟨v308, w, hr, hM⟩ := Mem.litE (f := (Value.int IntKind.i64)) (dst := some 43) (ty := _) (pos := _) (af := _) (gd := _) (ps := [(0, .tmp 42)]) ([x295] : List (Int)) i64_one hM hS Try.underlying22 ty_el_3 rfl rfl rfl rfl
          refine st_val hS rfl rfl (by decide) hr fun a hS => ?_
          obtain ⟨_, hx, hF⟩ := bind_some hF
          have hM := hM.pick [3, 0, 1, 2] (by decide) rfl
          obtain ⟨v309, w, hr, hM⟩ := Mem.appE (f := (Value.int IntKind.i64)) (S := _) (R := [(true, ow 3 v308 (List.map (Value.int IntKind.i64) ([x295] : List (Int)))), (true, bx b3 27 [(Value.int IntKind.i64 p0_g_Size), p0_g_Rowsv]), (false, rd p0_g_Rowsv (List.map (Value.int IntKind.i64) p0_g_Rows))]) (ρ := a.eval) (dst := some 44) (ty := _) (pos := _) (af := _) (gd := _) (x := .tmp 41) (y := .tmp 43) i64_one hM Try.underlying22 ty_el_3 rfl (by decide) (hS.ev rfl) (hS.ev rfl) (rd_of_ow (hM.get 1 rfl)) (catO_some hx)
          refine st_val hS rfl rfl (by decide) hr fun a hS => ?_
          refine st_val hS rfl rfl (by decide) (rv_assign (hS.ev rfl)) fun a hS => ?_
          refine wpList_nil ?_
          refine hK305 _ _ ?_
          refine wp_region_lit ?_
          refine st_val hS rfl rfl (by decide) (rv_move (hS.ev rfl)) fun a hS => ?_
          refine st_val hS rfl rfl (by decide) (rv_move (hS.ev rfl)) fun a hS => ?_
          obtain ⟨_, hx, hF⟩ := bind_some hF
          have hi0 := nnO_some hx
          refine st_val hS rfl rfl (by decide) (rv_shl (hS.ev rfl) (hS.ev rfl) hi0) fun a hS => ?_
          refine st_val hS rfl rfl (by decide) (rv_sub (hS.ev rfl) (hS.ev rfl)) fun a hS => ?_
          refine st_val hS rfl rfl (by decide) (rv_assign (hS.ev rfl)) fun a hS => ?_
          refine wpList_nil ?_
          cases hF
          exact hN2 _ _ _ rfl ⟨v309, (hS.sub (sub_cons rfl (sub_cons rfl (sub_cons rfl sub_nil)))), (hM.pick [2, 3, 0] (by decide) rfl)⟩
      refine wp_seq_k fun K310 hK310 => ?_
      refine wp_region_lit ?_
      refine st_val hS rfl rfl (by decide) (rv_fieldAddr ty_fd_27_0 (hS.ev rfl)) fun a hS => ?_
      refine st_val hS rfl rfl (by decide) (rv_load_bx (hS.ev rfl) ty_ag_3 (hM.get 0 rfl) rfl) fun a hS => ?_
      refine st_val hS rfl rfl (by decide) (rv_sub (hS.ev rfl) (hS.ev rfl)) fun a hS => ?_
      refine st_val hS rfl rfl (by decide) (rv_assign (hS.ev rfl)) fun a hS => ?_
      refine wpList_nil ?_
      refine hK310 _ _ ?_
      refine wp_block ?_
      obtain ⟨lb4, hl4, hF4⟩ := bind_some hF
      refine wp_loop_sh (fun s => S_spec_EliminationOf_l4 F p0_g_Size p0_g_Rows x182 s.1 s.2) (fun s a w => Sl 50 [(1, (fdp b3 0)), (4, v180), (5, (Value.int IntKind.i64 x182)), (6, (Value.int IntKind.i64 s.1)), (7, (Value.int IntKind.i64 s.2))] a ∧ Mem Nob w0 w [(true, bx b3 27 [(Value.int IntKind.i64 p0_g_Size), p0_g_Rowsv]), (false, rd p0_g_Rowsv (List.map (Value.int IntKind.i64) p0_g_Rows)), (true, ow 3 v180 (List.map (Value.int IntKind.i64) l181))]) hl4 ⟨(hS.sub (sub_cons rfl (sub_cons rfl (sub_cons rfl (sub_cons rfl (sub_cons rfl sub_nil)))))), (hM.pick [0, 1, 2] (by decide) rfl)⟩ ?_
      rintro K4 ⟨x311, x312⟩ a w res4 ⟨hS, hM⟩ hF hN4 hX4
      have hF : S_spec_EliminationOf_l4 F p0_g_Size p0_g_Rows x182 x311 x312 = some res4 := hF
      have hS : Sl 50 [(1, (fdp b3 0)), (4, v180), (5, (Value.int IntKind.i64 x182)), (6, (Value.int IntKind.i64 x311)), (7, (Value.int IntKind.i64 x312))] a := hS
      have hM : Mem Nob w0 w [(true, bx b3 27 [(Value.int IntKind.i64 p0_g_Size), p0_g_Rowsv]), (false, rd p0_g_Rowsv (List.map (Value.int IntKind.i64) p0_g_Rows)), (true, ow 3 v180 (List.map (Value.int IntKind.i64) l181))] := hM
      unfold S_spec_EliminationOf_l4 at hF
      refine wp_seq_k fun K326 hK326 => ?_
      refine wp_seq_k fun K328 hK328 => ?_
      refine wp_region_lit ?_
      refine st_val hS rfl rfl (by decide) (rv_move (hS.ev rfl)) fun a hS => ?_
      refine st_val hS rfl rfl (by decide) (rv_geq (hS.ev rfl) (hS.ev rfl)) fun a hS => ?_
      refine wpList_nil ?_
      refine hK328 _ _ ?_
      rcases ite_some hF with ⟨hc, hF⟩ | ⟨hc, hF⟩
      · refine cond_t hS rfl hc ?_
        refine wp_skip ?_
        refine hK326 _ _ ?_
        refine wp_seq_k fun K329 hK329 => ?_
        have hJ5 : ∀ (x334 : Int) (a : Act) (w : World), Sl 50 [(1, (fdp b3 0)), (4, v180), (5, (Value.int IntKind.i64 x182)), (6, (Value.int IntKind.i64 x334)), (7, (Value.int IntKind.i64 x312))] a → Mem Nob w0 w [(true, bx b3 27 [(Value.int IntKind.i64 p0_g_Size), p0_g_Rowsv]), (false, rd p0_g_Rowsv (List.map (Value.int IntKind.i64) p0_g_Rows)), (true, ow 3 v180 (List.map (Value.int IntKind.i64) l181))] → S_spec_EliminationOf_j5 F x312 x334 = some res4 → K329 a w := by
          intro x334 a w hS hM hF
          unfold S_spec_EliminationOf_j5 at hF
          refine hK329 _ _ ?_
          refine wp_region_lit ?_
          refine st_val hS rfl rfl (by decide) (rv_move (hS.ev rfl)) fun a hS => ?_
          refine st_val hS rfl rfl (by decide) (rv_sub (hS.ev rfl) (hS.ev rfl)) fun a hS => ?_
          refine st_val hS rfl rfl (by decide) (rv_assign (hS.ev rfl)) fun a hS => ?_
          refine wpList_nil ?_
          cases hF
          exact hN4 _ _ _ rfl ⟨(hS.sub (sub_cons rfl (sub_cons rfl (sub_cons rfl (sub_cons rfl (sub_cons rfl sub_nil)))))), (hM.pick [0, 1, 2] (by decide) rfl)⟩
        refine wp_block ?_
        refine wp_seq_k fun K335 hK335 => ?_
        have hJ6 : ∀ (p337 : Bool) (a : Act) (w : World), Sl 50 [(1, (fdp b3 0)), (4, v180), (5, (Value.int IntKind.i64 x182)), (6, (Value.int IntKind.i64 x311)), (7, (Value.int IntKind.i64 x312)), (36, (Value.bool p337))] a → Mem Nob w0 w [(true, bx b3 27 [(Value.int IntKind.i64 p0_g_Size), p0_g_Rowsv]), (false, rd p0_g_Rowsv (List.map (Value.int IntKind.i64) p0_g_Rows)), (true, ow 3 v180 (List.map (Value.int IntKind.i64) l181))] → S_spec_EliminationOf_j6 F x311 x312 p337 = some res4 → K335 a w := by
          intro p337 a w hS hM hF
          unfold S_spec_EliminationOf_j6 at hF
          refine hK335 _ _ ?_
          rcases ite_some hF with ⟨hc, hF⟩ | ⟨hc, hF⟩
          · refine cond_t hS rfl hc ?_
            refine wp_region_lit ?_
            refine st_val hS rfl rfl (by decide) (rv_move (hS.ev rfl)) fun a hS => ?_
            refine st_val hS rfl rfl (by decide) (rv_assign (hS.ev rfl)) fun a hS => ?_
            refine wpList_nil ?_
            exact hJ5 x312 _ _ (hS.sub (sub_cons rfl (sub_cons rfl (sub_cons rfl (sub_cons rfl (sub_cons rfl sub_nil)))))) (hM.pick [0, 1, 2] (by decide) rfl) hF
          · refine cond_f hS rfl hc ?_
            refine wp_skip ?_
            exact hJ5 x311 _ _ (hS.sub (sub_cons rfl (sub_cons rfl (sub_cons rfl (sub_cons rfl (sub_cons rfl sub_nil)))))) (hM.pick [0, 1, 2] (by decide) rfl) hF
        refine wp_region_lit ?_
        refine st_val hS rfl rfl (by decide) (rv_move (hS.ev rfl)) fun a hS => ?_
        refine st_val hS rfl rfl (by decide) (rv_move (hS.ev rfl)) fun a hS => ?_
        obtain ⟨_, hx, hF⟩ := bind_some hF
        have hi0 := nnO_some hx
        refine st_val hS rfl rfl (by decide) (rv_shr (hS.ev rfl) (hS.ev rfl) hi0) fun a hS => ?_
        refine st_val hS rfl rfl (by decide) (rv_and (hS.ev rfl) (hS.ev rfl)) fun a hS => ?_
        refine st_val hS rfl rfl (by decide) (rv_eql (hS.ev rfl) (hS.ev rfl)) fun a hS => ?_
        refine st_val hS rfl rfl (by decide) (rv_move (hS.ev rfl)) fun a hS => ?_
        rcases ite_some hF with ⟨hc, hF⟩ | ⟨hc, hF⟩
        · have hS := hS.setb (t := 31) rfl hc
          refine st_val hS rfl rfl (by decide) (rv_load_agg (hS.ev rfl) ty_ag_27 (hM.get 0 rfl) ty_sz_27) fun a hS => ?_
          refine st_val hS rfl rfl (by decide) (rv_move (hS.ev rfl)) fun a hS => ?_
          refine st_val hS rfl rfl (by decide) (rv_move (hS.ev rfl)) fun a hS => ?_
          obtain ⟨r338, hr, hF⟩ := bind_some hF
          refine st_wp hS rfl (wp_call hS rfl rfl (by decide) fn_ok_53 rfl (c_spec_l6Simplicial F p0_g_Size p0_g_Rows x312 x182 p0_g_Rowsv hr _ (hM.get 1 rfl)) fun v w a hK hS => ?_)
          obtain ⟨rfl, hN⟩ := hK
          have hM := hM.fra hN.fr
          refine st_val hS rfl rfl (by decide) (rv_pick_t (hS.ev rfl) (hS.ev rfl)) fun a hS => ?_
          refine wpList_nil ?_
          exact hJ6 r338 _ _ (hS.sub (sub_cons rfl (sub_cons rfl (sub_cons rfl (sub_cons rfl (sub_cons rfl (sub_cons rfl sub_nil))))))) (hM.pick [0, 1, 2] (by decide) rfl) hF
        · have hS := hS.setb (t := 31) rfl hc
          refine st_skip hS rfl rfl (by decide) fun a hS => ?_
          refine st_skip hS rfl rfl (by decide) fun a hS => ?_
          refine st_skip hS rfl rfl (by decide) fun a hS => ?_
          refine st_skip hS rfl rfl (by decide) fun a hS => ?_
          refine st_val hS rfl rfl (by decide) (rv_pick_f (hS.ev rfl) (hS.ev rfl)) fun a hS => ?_
          refine wpList_nil ?_
          exact hJ6 false _ _ (hS.sub (sub_cons rfl (sub_cons rfl (sub_cons rfl (sub_cons rfl (sub_cons rfl (sub_cons rfl sub_nil))))))) (hM.pick [0, 1, 2] (by decide) rfl) hF
      · refine cond_f hS rfl hc ?_
        refine wp_exit ?_
        cases hF
        exact hJ3 x311 _ _ (hS.sub (sub_cons rfl (sub_cons rfl (sub_cons rfl (sub_cons rfl sub_nil))))) (hM.pick [0, 1, 2] (by decide) rfl) (by have e := hX4 _ rfl; subst e; exact hF4)
    · refine cond_f hS rfl hc ?_
      refine wp_exit ?_
      cases hF
      exact hJ1 l181 v180 _ _ (hS.sub (sub_cons rfl sub_nil)) (hM.pick [2] (by decide) rfl) (by have e := hX2 _ rfl; subst e; exact hF2)


theorem c_spec_IsChordal (F : Nat) (p0_g_Size : Int) (p0_g_Rows : List Int) (p0_g_Rowsv : Value) {r : Bool} (hF : S_spec_IsChordal F p0_g_Size p0_g_Rows = some r) (w0 : World) (h0 : RdRow w0 p0_g_Rowsv (List.map (Value.int IntKind.i64) p0_g_Rows)) :
    Calls Try.prog 31 [(Value.agg #[(Value.int IntKind.i64 p0_g_Size), p0_g_Rowsv])].toArray w0 (retPost fun v w' => v = (Value.bool r) ∧ Mem Nob w0 w' []) := by
  have hM : Mem Nob w0 w0 [(false, rd p0_g_Rowsv (List.map (Value.int IntKind.i64) p0_g_Rows))] := (Mem.rcons (Mem.nil w0) h0 (by simp))
  refine enter2 Try.func31 rfl rfl rfl fun Q a hQr hQn hQp hS => ?_
  have hS : Sl 11 [(0, (Value.agg #[(Value.int IntKind.i64 p0_g_Size), p0_g_Rowsv]))] a := hS
  unfold S_spec_IsChordal at hF
  refine wp_seq_k fun K1 hK1 => ?_
  refine wp_region_lit ?_
  obtain ⟨b3, w, hr, hM⟩ := hM.boxE (ρ := a.eval) (dst := some 1) (ty := _) (pos := _) (af := _) (gd := _) (x := .tmp 0) (T := 27) [(Value.int IntKind.i64 p0_g_Size), p0_g_Rowsv] (hS.ev rfl) rfl
  refine st_val hS rfl rfl (by decide) hr fun a hS => ?_
  refine st_val hS rfl rfl (by decide) (rv_assign (hS.ev rfl)) fun a hS => ?_
  refine wpList_nil ?_
  refine hK1 _ _ ?_
  refine wp_seq_k fun K4 hK4 => ?_
  refine wp_region_lit ?_
  refine st_val hS rfl rfl (by decide) (rv_load_agg (hS.ev rfl) ty_ag_27 (hM.get 0 rfl) ty_sz_27) fun a hS => ?_
  obtain ⟨r7, hr, hF⟩ := bind_some hF
  refine st_wp hS rfl (wp_call hS rfl rfl (by decide) fn_ok_38 rfl (c_spec_EliminationOf F p0_g_Size p0_g_Rows p0_g_Rowsv hr _ (hM.get 1 rfl)) fun v w a hK hS => ?_)
  obtain ⟨v8, rfl, hN⟩ := hK
  have hM := hM.add hN rfl
  refine st_val hS rfl rfl (by decide) (rv_move (hS.ev rfl)) fun a hS => ?_
  refine st_val hS rfl rfl (by decide) (rv_extract (hS.ev rfl) rfl) fun a hS => ?_
  refine st_val hS rfl rfl (by decide) (rv_extract (hS.ev rfl) rfl) fun a hS => ?_
  refine st_val hS rfl rfl (by decide) (rv_assign (hS.ev rfl)) fun a hS => ?_
  refine st_val hS rfl rfl (by decide) (rv_assign (hS.ev rfl)) fun a hS => ?_
  refine wpList_nil ?_
  refine hK4 _ _ ?_
  refine wp_seq_k fun K9 hK9 => ?_
  refine wp_region_lit ?_
  refine st_val hS rfl rfl (by decide) (rv_move (hS.ev rfl)) fun a hS => ?_
  refine st_val hS rfl rfl (by decide) (rv_assign (hS.ev rfl)) fun a hS => ?_
  refine wpList_nil ?_
  refine hK9 _ _ ?_
  refine wp_ret ?_
  cases hF
  exact hQr _ _ (r_1 hS rfl rfl ⟨rfl, hM.pick [] (by decide) rfl⟩)


theorem c_impl_EliminationOf_c1 (F : Nat) (p0_v : Int) (q0_Size : Int) (q0_Rows : List Int) (q1_v : Int) (q0_Rowsv : Value) (q0b : Nat) (q1b : Nat) {r : Bool} (hF : S_impl_EliminationOf_c1 F p0_v q0_Size q0_Rows q1_v = some r) (w0 : World) (h0 : RdRow w0 q0_Rowsv (List.map (Value.int IntKind.i64) q0_Rows)) (h1 : (bx q0b 27 [(Value.int IntKind.i64 q0_Size), q0_Rowsv]).P w0) (h2 : (bx q1b 3 [(Value.int IntKind.i64 q1_v)]).P w0) :
    Calls Try.prog 73 [(Value.int IntKind.i64 p0_v), (fdp q0b 0), (fdp q1b 0)].toArray w0 (retPost fun v w' => v = (Value.bool r) ∧ Mem Nob w0 w' []) := by
  have hM : Mem Nob w0 w0 [(false, rd q0_Rowsv (List.map (Value.int IntKind.i64) q0_Rows)), (false, bx q0b 27 [(Value.int IntKind.i64 q0_Size), q0_Rowsv]), (false, bx q1b 3 [(Value.int IntKind.i64 q1_v)])] := (Mem.rcons (Mem.gcons (Mem.gcons (Mem.nil w0) h2 (by simp)) h1 (by simp)) h0 (by simp))
  refine enter2 Try.func73 rfl rfl rfl fun Q a hQr hQn hQp hS => ?_
  have hS : Sl 14 [(0, (Value.int IntKind.i64 p0_v)), (1, (fdp q0b 0)), (2, (fdp q1b 0))] a := hS
  unfold S_impl_EliminationOf_c1 at hF
  refine wp_seq_k fun K1 hK1 => ?_
  refine wp_region_lit ?_
  refine st_val hS rfl rfl (by decide) (rv_assign (hS.ev rfl)) fun a hS => ?_
  refine wpList_nil ?_
  refine hK1 _ _ ?_
  refine wp_seq_k fun K2 hK2 => ?_
  refine an_start Nob ty_mixed fun w hf => ?_
  have hM := hM.fra hf
  have hB := hM
  have hM := hB.reg0
  refine an_take hS (i := 0) rfl (by kernel_rfl) (by kernel_rfl) (by kernel_rfl) rfl (by decide) (fun c a a' w hd h => hQp c a a' w hd h) rfl (fun w' hC' => (rv_load_agg (hS.ev rfl) ty_ag_27 ((hB.fra hC').get 1 rfl) ty_sz_27)) hM.fr fun a hS => ?_
  refine an_take hS (i := 1) rfl (by kernel_rfl) (by kernel_rfl) (by kernel_rfl) rfl (by decide) (fun c a a' w hd h => hQp c a a' w hd h) rfl (fun w' hC' => (rv_fieldAddr ty_fd_27_1 (hS.ev rfl))) hM.fr fun a hS => ?_
  refine an_take hS (i := 2) rfl (by kernel_rfl) (by kernel_rfl) (by kernel_rfl) rfl (by decide) (fun c a a' w hd h => hQp c a a' w hd h) rfl (fun w' hC' => (rv_load_bx (hS.ev rfl) ty_ag_22 ((hB.fra hC').get 1 rfl) rfl)) hM.fr fun a hS => ?_
  refine an_take hS (i := 3) rfl (by kernel_rfl) (by kernel_rfl) (by kernel_rfl) rfl (by decide) (fun c a a' w hd h => hQp c a a' w hd h) rfl (fun w' hC' => (rv_move (hS.ev rfl))) hM.fr fun a hS => ?_
  obtain ⟨x5, hx, hF⟩ := bind_some hF
  obtain ⟨hi0, hi1, hex5⟩ := idxL_some hx
  refine an_take hS (i := 4) rfl (by kernel_rfl) (by kernel_rfl) (by kernel_rfl) rfl (by decide) (fun c a a' w hd h => hQp c a a' w hd h) rfl (fun w' hC' => (rv_indexAddr Try.underlying22 ty_el_3 (hS.ev rfl) (hS.ev rfl) (hM.get 0 rfl) hi0 (map_len hi1))) hM.fr fun a hS => ?_
  refine an_take hS (i := 5) rfl (by kernel_rfl) (by kernel_rfl) (by kernel_rfl) rfl (by decide) (fun c a a' w hd h => hQp c a a' w hd h) rfl (fun w' hC' => (rv_load_el (hS.ev rfl) ty_ag_3 ((hB.fra hC').get 0 rfl) (mget hex5))) hM.fr fun a hS => ?_
  refine an_take hS (i := 6) rfl (by kernel_rfl) (by kernel_rfl) (by kernel_rfl) rfl (by decide) (fun c a a' w hd h => hQp c a a' w hd h) rfl (fun w' hC' => (rv_load_bx (hS.ev rfl) ty_ag_3 ((hB.fra hC').get 2 rfl) rfl)) hM.fr fun a hS => ?_
  refine an_take hS (i := 7) rfl (by kernel_rfl) (by kernel_rfl) (by kernel_rfl) rfl (by decide) (fun c a a' w hd h => hQp c a a' w hd h) rfl (fun w' hC' => (rv_and (hS.ev rfl) (hS.ev rfl))) hM.fr fun a hS => ?_
  obtain ⟨r6, hr, hF⟩ := bind_some hF
  refine an_one hS (i := 8) rfl (by kernel_rfl) rfl ?_
  refine wp_call hS rfl rfl (by decide) fn_ok_55 rfl (c_impl_isClique F q0_Size q0_Rows (bAnd x5 q1_v) q0_Rowsv hr _ (hM.get 0 rfl)) fun v w a hK hS => ?_
  obtain ⟨rfl, hN⟩ := hK
  have hM := hM.fra hN.fr
  refine ⟨hM.fr, ?_⟩
  refine an_take hS (i := 9) rfl (by kernel_rfl) (by kernel_rfl) (by kernel_rfl) rfl (by decide) (fun c a a' w hd h => hQp c a a' w hd h) rfl (fun w' hC' => (rv_assign (hS.ev rfl))) hM.fr fun a hS => ?_
  refine an_done (by kernel_rfl) ?_
  have hN := hM.pick [] (by decide) rfl
  have hM := Mem.callo (A := []) (B := [(false, rd q0_Rowsv (List.map (Value.int IntKind.i64) q0_Rows)), (false, bx q0b 27 [(Value.int IntKind.i64 q0_Size), q0_Rowsv]), (false, bx q1b 3 [(Value.int IntKind.i64 q1_v)])]) hB rfl (hN.memS fun _ h => h.elim) rfl
  refine hK2 _ _ ?_
  refine wp_ret ?_
  cases hF
  exact hQr _ _ (r_1 hS rfl rfl ⟨rfl, hM.pick [] (by decide) rfl⟩)


theorem c_slices_IndexFunc_int__EliminationOfc1 (F : Nat) (p0_s : List Int) (p1_f_c0_Size : Int) (p1_f_c0_Rows : List Int) (p1_f_c1_v : Int) (p0_sv : Value) (p1_f_c0_Rowsv : Value) (p1_f_c0b : Nat) (p1_f_c1b : Nat) {r : Int} (hF : S_slices_IndexFunc_int__EliminationOfc1 F p0_s p1_f_c0_Size p1_f_c0_Rows p1_f_c1_v = some r) (w0 : World) (h0 : RdRow w0 p0_sv (List.map (Value.int IntKind.i64) p0_s)) (h1 : RdRow w0 p1_f_c0_Rowsv (List.map (Value.int IntKind.i64) p1_f_c0_Rows)) (h2 : (bx p1_f_c0b 27 [(Value.int IntKind.i64 p1_f_c0_Size), p1_f_c0_Rowsv]).P w0) (h3 : (bx p1_f_c1b 3 [(Value.int IntKind.i64 p1_f_c1_v)]).P w0) :
    Calls Try.prog 72 [p0_sv, (Value.func (Fn.func 73) #[] #[(fdp p1_f_c0b 0), (fdp p1_f_c1b 0)])].toArray w0 (retPost fun v w' => v = (Value.int IntKind.i64 r) ∧ Mem Nob w0 w' []) := by
  have hM : Mem Nob w0 w0 [(false, rd p0_sv (List.map (Value.int IntKind.i64) p0_s)), (false, rd p1_f_c0_Rowsv (List.map (Value.int IntKind.i64) p1_f_c0_Rows)), (false, bx p1_f_c0b 27 [(Value.int IntKind.i64 p1_f_c0_Size), p1_f_c0_Rowsv]), (false, bx p1_f_c1b 3 [(Value.int IntKind.i64 p1_f_c1_v)])] := (Mem.rcons (Mem.rcons (Mem.gcons (Mem.gcons (Mem.nil w0) h3 (by simp)) h2 (by simp)) h1 (by simp)) h0 (by simp))
  refine enter2 Try.func72 rfl rfl rfl fun Q a hQr hQn hQp hS => ?_
  have hS : Sl 19 [(0, p0_sv), (1, (Value.func (Fn.func 73) #[] #[(fdp p1_f_c0b 0), (fdp p1_f_c1b 0)]))] a := hS
  unfold S_slices_IndexFunc_int__EliminationOfc1 at hF
  refine wp_seq_k fun K1 hK1 => ?_
  refine wp_region_lit ?_
  refine st_val hS rfl rfl (by decide) (rv_assign (hS.ev rfl)) fun a hS => ?_
  refine wpList_nil ?_
  refine hK1 _ _ ?_
  refine wp_seq_k fun K2 hK2 => ?_
  have hJ1 : ∀ (a : Act) (w : World), Sl 19 [] a → Mem Nob w0 w [] → S_slices_IndexFunc_int__EliminationOfc1_j1 F = some r → K2 a w := by
    intro a w hS hM hF
    unfold S_slices_IndexFunc_int__EliminationOfc1_j1 at hF
    refine hK2 _ _ ?_
    refine wp_seq_k fun K39 hK39 => ?_
    refine wp_region_lit ?_
    refine st_val hS rfl rfl (by decide) (rv_assign (hS.ev rfl)) fun a hS => ?_
    refine wpList_nil ?_
    refine hK39 _ _ ?_
    refine wp_ret ?_
    cases hF
    exact hQr _ _ (r_1 hS rfl rfl ⟨rfl, hM.pick [] (by decide) rfl⟩)
  refine wp_seq_k fun K40 hK40 => ?_
  refine wp_region_lit ?_
  refine st_val hS rfl rfl (by decide) (rv_move (hS.ev rfl)) fun a hS => ?_
  refine st_val hS rfl rfl (by decide) (rv_len_rowM Try.underlying22 (hS.ev rfl) (hM.get 0 rfl)) fun a hS => ?_
  refine st_val hS rfl rfl (by decide) (rv_move (hS.ev rfl)) fun a hS => ?_
  refine wpList_nil ?_
  refine hK40 _ _ ?_
  refine wp_block ?_
  obtain ⟨lb2, hl2, hF2⟩ := bind_some hF
  refine wp_loop_sh (fun s => S_slices_IndexFunc_int__EliminationOfc1_l2 F p0_s p1_f_c0_Size p1_f_c0_Rows p1_f_c1_v s) (fun s a w => Sl 19 [(0, p0_sv), (1, (Value.func (Fn.func 73) #[] #[(fdp p1_f_c0b 0), (fdp p1_f_c1b 0)])), (7, (Value.int IntKind.i64 (p0_s.length : Int))), (8, (Value.int IntKind.i64 s))] a ∧ Mem Nob w0 w [(false, rd p0_sv (List.map (Value.int IntKind.i64) p0_s)), (false, bx p1_f_c0b 27 [(Value.int IntKind.i64 p1_f_c0_Size), p1_f_c0_Rowsv]), (false, rd p1_f_c0_Rowsv (List.map (Value.int IntKind.i64) p1_f_c0_Rows)), (false, bx p1_f_c1b 3 [(Value.int IntKind.i64 p1_f_c1_v)])]) hl2 ⟨(hS.sub (sub_cons rfl (sub_cons rfl (sub_cons rfl (sub_cons rfl sub_nil))))), (hM.pick [0, 2, 1, 3] (by decide) rfl)⟩ ?_
  rintro K2 x41 a w res2 ⟨hS, hM⟩ hF hN2 hX2
  have hF : S_slices_IndexFunc_int__EliminationOfc1_l2 F p0_s p1_f_c0_Size p1_f_c0_Rows p1_f_c1_v x41 = some res2 := hF
  have hS : Sl 19 [(0, p0_sv), (1, (Value.func (Fn.func 73) #[] #[(fdp p1_f_c0b 0), (fdp p1_f_c1b 0)])), (7, (Value.int IntKind.i64 (p0_s.length : Int))), (8, (Value.int IntKind.i64 x41))] a := hS
  have hM : Mem Nob w0 w [(false, rd p0_sv (List.map (Value.int IntKind.i64) p0_s)), (false, bx p1_f_c0b 27 [(Value.int IntKind.i64 p1_f_c0_Size), p1_f_c0_Rowsv]), (false, rd p1_f_c0_Rowsv (List.map (Value.int IntKind.i64) p1_f_c0_Rows)), (false, bx p1_f_c1b 3 [(Value.int IntKind.i64 p1_f_c1_v)])] := hM
  unfold S_slices_IndexFunc_int__EliminationOfc1_l2 at hF
  refine wp_seq_k fun K59 hK59 => ?_
  refine wp_region_lit ?_
  refine st_val hS rfl rfl (by decide) (rv_lss (hS.ev rfl) (hS.ev rfl)) fun a hS => ?_
  refine wpList_nil ?_
  refine hK59 _ _ ?_
  refine wp_seq_k fun K60 hK60 => ?_
  rcases ite_some hF with ⟨hc, hF⟩ | ⟨hc, hF⟩
  · refine cond_t hS rfl hc ?_
    refine wp_skip ?_
    refine hK60 _ _ ?_
    refine wp_seq_k fun K61 hK61 => ?_
    refine wp_block ?_
    refine wp_seq_k fun K69 hK69 => ?_
    refine wp_region_lit ?_
    refine st_val hS rfl rfl (by decide) (rv_move (hS.ev rfl)) fun a hS => ?_
    refine st_val hS rfl rfl (by decide) (rv_assign (hS.ev rfl)) fun a hS => ?_
    refine wpList_nil ?_
    refine hK69 _ _ ?_
    refine wp_seq_k fun K70 hK70 => ?_
    refine wp_region_lit ?_
    refine st_val hS rfl rfl (by decide) (rv_move (hS.ev rfl)) fun a hS => ?_
    refine st_val hS rfl rfl (by decide) (rv_move (hS.ev rfl)) fun a hS => ?_
    refine st_val hS rfl rfl (by decide) (rv_move (hS.ev rfl)) fun a hS => ?_
    obtain ⟨x73, hx, hF⟩ := bind_some hF
    obtain ⟨hi0, hi1, hex73⟩ := idxL_some hx
    refine st_val hS rfl rfl (by decide) (rv_indexAddr Try.underlying22 ty_el_3 (hS.ev rfl) (hS.ev rfl) (hM.get 0 rfl) hi0 (map_len hi1)) fun a hS => ?_
    refine st_val hS rfl rfl (by decide) (rv_load_el (hS.ev rfl) ty_ag_3 (hM.get 0 rfl) (mget hex73)) fun a hS => ?_
    obtain ⟨r74, hr, hF⟩ := bind_some hF
    refine st_wp hS rfl (wp_callv (vs := [(Value.int IntKind.i64 x73)]) (cap := [(fdp p1_f_c0b 0), (fdp p1_f_c1b 0)]) hS rfl rfl rfl (by decide) fn_ok_73 rfl (c_impl_EliminationOf_c1 F x73 p1_f_c0_Size p1_f_c0_Rows p1_f_c1_v p1_f_c0_Rowsv p1_f_c0b p1_f_c1b hr _ (hM.get 2 rfl) (hM.get 1 rfl) (hM.get 3 rfl)) fun v w a hK hS => ?_)
    obtain ⟨rfl, hN⟩ := hK
    have hM := hM.fra hN.fr
    refine wpList_nil ?_
    refine hK70 _ _ ?_
    rcases ite_some hF with ⟨hc, hF⟩ | ⟨hc, hF⟩
    · refine cond_t hS rfl hc ?_
      refine wp_seq_k fun K75 hK75 => ?_
      refine wp_region_lit ?_
      refine st_val hS rfl rfl (by decide) (rv_move (hS.ev rfl)) fun a hS => ?_
      refine st_val hS rfl rfl (by decide) (rv_assign (hS.ev rfl)) fun a hS => ?_
      refine wpList_nil ?_
      refine hK75 _ _ ?_
      refine wp_ret ?_
      cases hF
      have e := hX2 _ rfl
      subst e
      have hF := hF2
      cases hF
      exact hQr _ _ (r_1 hS rfl rfl ⟨rfl, hM.pick [] (by decide) rfl⟩)
    · refine cond_f hS rfl hc ?_
      refine wp_skip ?_
      refine hK61 _ _ ?_
      refine wp_region_lit ?_
      refine st_val hS rfl rfl (by decide) (rv_add (hS.ev rfl) (hS.ev rfl)) fun a hS => ?_
      refine st_val hS rfl rfl (by decide) (rv_move (hS.ev rfl)) fun a hS => ?_
      refine wpList_nil ?_
      cases hF
      exact hN2 _ _ _ rfl ⟨(hS.sub (sub_cons rfl (sub_cons rfl (sub_cons rfl (sub_cons rfl sub_nil))))), (hM.pick [0, 1, 2, 3] (by decide) rfl)⟩
  · refine cond_f hS rfl hc ?_
    refine wp_exit ?_
    cases hF
    exact hJ1 _ _ (hS.sub sub_nil) (hM.pick [] (by decide) rfl) (by have e := hX2 _ rfl; subst e; exact hF2)


theorem c_impl_EliminationOf (F : Nat) (p0_g_Size : Int) (p0_g_Rows : List Int) (p0_g_Rowsv : Value) {r : (List (Int)) × Bool} (hF : S_impl_EliminationOf F p0_g_Size p0_g_Rows = some r) (w0 : World) (h0 : RdRow w0 p0_g_Rowsv (List.map (Value.int IntKind.i64) p0_g_Rows)) :
    Calls Try.prog 39 [(Value.agg #[(Value.int IntKind.i64 p0_g_Size), p0_g_Rowsv])].toArray w0 (retPost fun v w' => ∃ v178, v = (Value.tuple #[v178, (Value.bool r.2)]) ∧ Mem Nob w0 w' [(true, ow 3 v178 (List.map (Value.int IntKind.i64) r.1))]) := by
  have hM : Mem Nob w0 w0 [(false, rd p0_g_Rowsv (List.map (Value.int IntKind.i64) p0_g_Rows))] := (Mem.rcons (Mem.nil w0) h0 (by simp))
  refine enter2 Try.func39 rfl rfl rfl fun Q a hQr hQn hQp hS => ?_
  have hS : Sl 36 [(0, (Value.agg #[(Value.int IntKind.i64 p0_g_Size), p0_g_Rowsv]))] a := hS
  unfold S_impl_EliminationOf at hF
  refine wp_seq_k fun K1 hK1 => ?_
  refine wp_region_lit ?_
  obtain ⟨b3, w, hr, hM⟩ := hM.boxE (ρ := a.eval) (dst := some 1) (ty := _) (pos := _) (af := _) (gd := _) (x := .tmp 0) (T := 27) [(Value.int IntKind.i64 p0_g_Size), p0_g_Rowsv] (hS.ev rfl) rfl
  refine st_val hS rfl rfl (by decide) hr fun a hS => ?_
  refine st_val hS rfl rfl (by decide) (rv_assign (hS.ev rfl)) fun a hS => ?_
  refine st_val hS rfl rfl (by decide) (rv_assign (hS.ev rfl)) fun a hS => ?_
  refine wpList_nil ?_
  refine hK1 _ _ ?_
  refine wp_seq_k fun K4 hK4 => ?_
  refine wp_seq_k fun K9 hK9 => ?_
  refine wp_region_lit ?_
  refine st_val hS rfl rfl (by decide) (rv_load_agg (hS.ev rfl) ty_ag_27 (hM.get 0 rfl) ty_sz_27) fun a hS => ?_
  obtain ⟨r11, hr, hF⟩ := bind_some hF
  refine st_wp hS rfl (wp_call hS rfl rfl (by decide) fn_ok_54 rfl (c_impl_IsGraph F p0_g_Size p0_g_Rows p0_g_Rowsv hr _ (hM.get 1 rfl)) fun v w a hK hS => ?_)
  obtain ⟨rfl, hN⟩ := hK
  have hM := hM.fra hN.fr
  refine st_val hS rfl rfl (by decide) (rv_not (hS.ev rfl)) fun a hS => ?_
  refine wpList_nil ?_
  refine hK9 _ _ ?_
  rcases ite_some hF with ⟨hc, hF⟩ | ⟨hc, hF⟩
  · refine cond_t hS rfl hc ?_
    refine wp_seq_k fun K12 hK12 => ?_
    refine wp_region_lit ?_
    refine st_val hS rfl rfl (by decide) (rv_assign (hS.ev rfl)) fun a hS => ?_
    refine st_val hS rfl rfl (by decide) (rv_assign (hS.ev rfl)) fun a hS => ?_
    refine wpList_nil ?_
    refine hK12 _ _ ?_
    refine wp_ret ?_
    cases hF
    have hM := hM.addNil 3
    exact hQr _ _ (r_2 hS rfl rfl rfl ⟨(Value.slice none 0 0), rfl, hM.pick [0] (by decide) rfl⟩)
  · refine cond_f hS rfl hc ?_
    refine wp_skip ?_
    refine hK4 _ _ ?_
    refine wp_seq_k fun K13 hK13 => ?_
    refine wp_region_lit ?_
    obtain ⟨v17, w, hr, hM⟩ := Mem.litE (f := (Value.int IntKind.i64)) (dst := some 11) (ty := _) (pos := _) (af := _) (gd := _) (ps := []) ([] : List (Int)) i64_one hM hS Try.underlying22 ty_el_3 rfl rfl rfl rfl
    refine st_val hS rfl rfl (by decide) hr fun a hS => ?_
    refine st_val hS rfl rfl (by decide) (rv_load_agg (hS.ev rfl) ty_ag_27 (hM.get 1 rfl) ty_sz_27) fun a hS => ?_
    obtain ⟨r18, hr, hF⟩ := bind_some hF
    refine st_wp hS rfl (wp_call hS rfl rfl (by decide) fn_ok_61 rfl (c_impl_all F p0_g_Size p0_g_Rows p0_g_Rowsv hr _ (hM.get 2 rfl)) fun v w a hK hS => ?_)
    obtain ⟨rfl, hN⟩ := hK
    have hM := hM.fra hN.fr
    obtain ⟨b19, w, hr, hM⟩ := hM.allocE (ρ := a.eval) (dst := some 5) (ty := _) (pos := _) (af := _) (gd := _) (T := 3) (P := Try.prog) [(Value.int IntKind.i64 0)] ty_zr_3 rfl
    refine st_val hS rfl rfl (by decide) hr fun a hS => ?_
    refine st_val hS rfl rfl (by decide) (rv_assign (hS.ev rfl)) fun a hS => ?_
    obtain ⟨w, hr, hM⟩ := hM.st_bx1 (n := 0) (cs' := [(Value.int IntKind.i64 r18)]) (ρ := a.eval) (dst := none) (ty := _) (pos := _) (af := _) (gd := _) (x := .tmp 5) (y := .tmp 13) (hS.ev rfl) (hS.ev rfl) ty_sz_3 rfl rfl rfl
    refine st_unit hS rfl rfl hr ?_
    refine wpList_nil ?_
    refine hK13 _ _ ?_
    refine wp_seq_k fun K20 hK20 => ?_
    have hJ1 : ∀ (l99 : List Int) (v98 : Value) (a : Act) (w : World), Sl 36 [(4, v98)] a → Mem Nob w0 w [(true, ow 3 v98 (List.map (Value.int IntKind.i64) l99))] → S_impl_EliminationOf_j1 F l99 = some r → K20 a w := by
      intro l99 v98 a w hS hM hF
      unfold S_impl_EliminationOf_j1 at hF
      refine hK20 _ _ ?_
      refine wp_seq_k fun K100 hK100 => ?_
      refine wp_region_lit ?_
      refine st_val hS rfl rfl (by decide) (rv_move (hS.ev rfl)) fun a hS => ?_
      refine st_val hS rfl rfl (by decide) (rv_assign (hS.ev rfl)) fun a hS => ?_
      refine st_val hS rfl rfl (by decide) (rv_assign (hS.ev rfl)) fun a hS => ?_
      refine wpList_nil ?_
      refine hK100 _ _ ?_
      refine wp_ret ?_
      cases hF
      exact hQr _ _ (r_2 hS rfl rfl rfl ⟨v98, rfl, hM.pick [0] (by decide) rfl⟩)
    refine wp_block ?_
    obtain ⟨lb2, hl2, hF2⟩ := bind_some hF
    refine wp_loop_sh (fun s => S_impl_EliminationOf_l2 F p0_g_Size p0_g_Rows s.1 s.2) (fun s a w => ∃ (v127 : Value), Sl 36 [(1, (fdp b3 0)), (4, v127), (5, (fdp b19 0))] a ∧ Mem Nob w0 w [(true, bx b3 27 [(Value.int IntKind.i64 p0_g_Size), p0_g_Rowsv]), (false, rd p0_g_Rowsv (List.map (Value.int IntKind.i64) p0_g_Rows)), (true, ow 3 v127 (List.map (Value.int IntKind.i64) s.1)), (true, bx b19 3 [(Value.int IntKind.i64 s.2)])]) hl2 ⟨v17, (hS.sub (sub_cons rfl (sub_cons rfl (sub_cons rfl sub_nil)))), (hM.pick [2, 3, 1, 0] (by decide) rfl)⟩ ?_
    rintro K2 ⟨l128, x129⟩ a w res2 ⟨v127, hS, hM⟩ hF hN2 hX2
    have hF : S_impl_EliminationOf_l2 F p0_g_Size p0_g_Rows l128 x129 = some res2 := hF
    have hS : Sl 36 [(1, (fdp b3 0)), (4, v127), (5, (fdp b19 0))] a := hS
    have hM : Mem Nob w0 w [(true, bx b3 27 [(Value.int IntKind.i64 p0_g_Size), p0_g_Rowsv]), (false, rd p0_g_Rowsv (List.map (Value.int IntKind.i64) p0_g_Rows)), (true, ow 3 v127 (List.map (Value.int IntKind.i64) l128)), (true, bx b19 3 [(Value.int IntKind.i64 x129)])] := hM
    unfold S_impl_EliminationOf_l2 at hF
    refine wp_seq_k fun K154 hK154 => ?_
    refine wp_seq_k fun K156 hK156 => ?_
    refine wp_region_lit ?_
    refine st_val hS rfl rfl (by decide) (rv_load_bx (hS.ev rfl) ty_ag_3 (hM.get 3 rfl) rfl) fun a hS => ?_
    refine st_val hS rfl rfl (by decide) (rv_neq (hS.ev rfl) (hS.ev rfl)) fun a hS => ?_
    refine wpList_nil ?_
    refine hK156 _ _ ?_
    rcases ite_some hF with ⟨hc, hF⟩ | ⟨hc, hF⟩
    · refine cond_t hS rfl hc ?_
      refine wp_skip ?_
      refine hK154 _ _ ?_
      refine wp_block ?_
      refine wp_seq_k fun K157 hK157 => ?_
      refine wp_region_lit ?_
      refine st_val hS rfl rfl (by decide) (rv_load_bx (hS.ev rfl) ty_ag_3 (hM.get 3 rfl) rfl) fun a hS => ?_
      obtain ⟨r161, hr, hF⟩ := bind_some hF
      refine st_wp hS rfl (wp_call hS rfl rfl (by decide) fn_ok_64 rfl (c_impl_ListOf F x129 hr _) fun v162 w a hK hS => ?_)
      have hN := hK
      have hM := hM.add hN rfl
      refine st_val hS rfl rfl (by decide) (rv_makeFunc hS rfl) fun a hS => ?_
      obtain ⟨r163, hr, hF⟩ := bind_some hF
      refine st_wp hS rfl (wp_call hS rfl rfl (by decide) fn_ok_72 rfl (c_slices_IndexFunc_int__EliminationOfc1 F r161 p0_g_Size p0_g_Rows x129 v162 p0_g_Rowsv b3 b19 hr _ (rd_of_ow (hM.get 0 rfl)) (hM.get 2 rfl) (hM.get 1 rfl) (hM.get 4 rfl)) fun v w a hK hS => ?_)
      obtain ⟨rfl, hN⟩ := hK
      have hM := hM.fra hN.fr
      refine st_val hS rfl rfl (by decide) (rv_assign (hS.ev rfl)) fun a hS => ?_
      refine wpList_nil ?_
      refine hK157 _ _ ?_
      refine wp_seq_k fun K164 hK164 => ?_
      refine wp_seq_k fun K167 hK167 => ?_
      refine wp_region_lit ?_
      refine st_val hS rfl rfl (by decide) (rv_move (hS.ev rfl)) fun a hS => ?_
      refine st_val hS rfl rfl (by decide) (rv_lss (hS.ev rfl) (hS.ev rfl)) fun a hS => ?_
      refine wpList_nil ?_
      refine hK167 _ _ ?_
      rcases ite_some hF with ⟨hc, hF⟩ | ⟨hc, hF⟩
      · refine cond_t hS rfl hc ?_
        refine wp_seq_k fun K168 hK168 => ?_
        refine wp_region_lit ?_
        refine st_val hS rfl rfl (by decide) (rv_assign (hS.ev rfl)) fun a hS => ?_
        refine st_val hS rfl rfl (by decide) (rv_assign (hS.ev rfl)) fun a hS => ?_
        refine wpList_nil ?_
        refine hK168 _ _ ?_
        refine wp_ret ?_
        cases hF
        have e := hX2 _ rfl
        subst e
        have hF := hF2
        cases hF
        have hM := hM.addNil 3
        exact hQr _ _ (r_2 hS rfl rfl rfl ⟨(Value.slice none 0 0), rfl, hM.pick [0] (by decide) rfl⟩)
      · refine cond_f hS rfl hc ?_
        refine wp_skip ?_
        refine hK164 _ _ ?_
        refine wp_seq_k fun K169 hK169 => ?_
        refine wp_region_lit ?_
        refine st_val hS rfl rfl (by decide) (rv_load_bx (hS.ev rfl) ty_ag_3 (hM.get 4 rfl) rfl) fun a hS => ?_
        obtain ⟨r173, hr, hF⟩ := bind_some hF
        refine st_wp hS rfl (wp_call hS rfl rfl (by decide) fn_ok_64 rfl (c_impl_ListOf F x129 hr _) fun v174 w a hK hS => ?_)
        have hN := hK
        have hM := hM.add hN rfl
        refine st_val hS rfl rfl (by decide) (rv_move (hS.ev rfl)) fun a hS => ?_
        obtain ⟨x175, hx, hF⟩ := bind_some hF
        obtain ⟨hi0, hi1, hex175⟩ := idxL_some hx
        refine st_val hS rfl rfl (by decide) (rv_indexAddr Try.underlying22 ty_el_3 (hS.ev rfl) (hS.ev rfl) (rd_of_ow (hM.get 0 rfl)) hi0 (map_len hi1)) fun a hS => ?_
        refine st_val hS rfl rfl (by decide) (rv_load_el (hS.ev rfl) ty_ag_3 (rd_of_ow (hM.get 0 rfl)) (mget hex175)) fun a hS => ?_
        refine st_val hS rfl rfl (by decide) (rv_assign (hS.ev rfl)) fun a hS => ?_
        refine wpList_nil ?_
        refine hK169 _ _ ?_
        have hM := hM.pick [4, 5, 0, 1, 2, 3] (by decide) rfl
        refine an_start (feet [(true, ow 3 v127 (List.map (Value.int IntKind.i64) l128)), (true, bx b19 3 [(Value.int IntKind.i64 x129)])]) ty_mixed fun w hf => ?_
        have hM := hM.fra hf
        have hB := hM
        have hM := Mem.regA (A := [(true, ow 3 v127 (List.map (Value.int IntKind.i64) l128)), (true, bx b19 3 [(Value.int IntKind.i64 x129)])]) (R := [(true, ow 3 v174 (List.map (Value.int IntKind.i64) r173)), (true, ow 3 v162 (List.map (Value.int IntKind.i64) r161)), (true, bx b3 27 [(Value.int IntKind.i64 p0_g_Size), p0_g_Rowsv]), (false, rd p0_g_Rowsv (List.map (Value.int IntKind.i64) p0_g_Rows))]) hB rfl
        refine an_take hS (i := 0) rfl (by kernel_rfl) (by kernel_rfl) (by kernel_rfl) rfl (by decide) (fun c a a' w hd h => hQp c a a' w hd h) rfl (fun w' hC' => (rv_move (hS.ev rfl))) hM.fr fun a hS => ?_
        refine an_take hS (i := 1) rfl (by kernel_rfl) (by kernel_rfl) (by kernel_rfl) rfl (by decide) (fun c a a' w hd h => hQp c a a' w hd h) rfl (fun w' hC' => (rv_move (hS.ev rfl))) hM.fr fun a hS => ?_
        refine an_take hS (i := 5) rfl (by kernel_rfl) (by kernel_rfl) (by kernel_rfl) rfl (by decide) (fun c a a' w hd h => hQp c a a' w hd h) rfl (fun w' hC' => (rv_move (hS.ev rfl))) hM.fr fun a hS => ?_
        obtain ⟨_, hx, hF⟩ := bind_some hF
        have hi0 := nnO_some hx
        refine an_take hS (i := 6) rfl (by kernel_rfl) (by kernel_rfl) (by kernel_rfl) rfl (by decide) (fun c a a' w hd h => hQp c a a' w hd h) rfl (fun w' hC' => (rv_shl (hS.ev rfl) (hS.ev rfl) hi0)) hM.fr fun a hS => ?_
        refine an_two hS (i := 2) (j := 4) rfl rfl (by kernel_rfl) rfl rfl ?_ ?_
        · obtain ⟨v176, w, hr, hM⟩ := Mem.litE (f := (Value.int IntKind.i64)) (dst := some 29) (ty := _) (pos := _) (af := _) (gd := _) (ps := [(0, .tmp 28)]) ([x175] : List (Int)) i64_one hM hS Try.underlying22 ty_el_3 rfl rfl rfl rfl
          refine wp_val hS rfl (by decide) hr fun a hS => ⟨hM.fr, ?_⟩
          refine an_two hS (i := 3) (j := 4) rfl rfl (by kernel_rfl) rfl rfl ?_ ?_
          · obtain ⟨_, hx, hF⟩ := bind_some hF
            have hM := hM.pick [1, 0, 2, 3, 4, 5, 6] (by decide) rfl
            obtain ⟨v177, w, hr, hM⟩ := Mem.appE (f := (Value.int IntKind.i64)) (S := _) (R := [(true, ow 3 v176 (List.map (Value.int IntKind.i64) ([x175] : List (Int)))), (true, bx b19 3 [(Value.int IntKind.i64 x129)]), (false, ow 3 v174 (List.map (Value.int IntKind.i64) r173)), (false, ow 3 v162 (List.map (Value.int IntKind.i64) r161)), (false, bx b3 27 [(Value.int IntKind.i64 p0_g_Size), p0_g_Rowsv]), (false, rd p0_g_Rowsv (List.map (Value.int IntKind.i64) p0_g_Rows))]) (ρ := a.eval) (dst := some 30) (ty := _) (pos := _) (af := _) (gd := _) (x := .tmp 27) (y := .tmp 29) i64_one hM Try.underlying22 ty_el_3 rfl (by decide) (hS.ev rfl) (hS.ev rfl) (rd_of_ow (hM.get 1 rfl)) (catO_some hx)
            refine wp_val hS rfl (by decide) hr fun a hS => ⟨hM.fr, ?_⟩
            refine an_take hS (i := 8) rfl (by kernel_rfl) (by kernel_rfl) (by kernel_rfl) rfl (by decide) (fun c a a' w hd h => hQp c a a' w hd h) rfl (fun w' hC' => (rv_assign (hS.ev rfl))) hM.fr fun a hS => ?_
            refine an_one hS (i := 4) rfl (by kernel_rfl) rfl ?_
            refine wp_val hS rfl (by decide) (rv_load_bx (hS.ev rfl) ty_ag_3 (hM.get 2 rfl) rfl) fun a hS => ⟨hM.fr, ?_⟩
            refine an_take hS (i := 7) rfl (by kernel_rfl) (by kernel_rfl) (by kernel_rfl) rfl (by decide) (fun c a a' w hd h => hQp c a a' w hd h) rfl (fun w' hC' => (rv_andNot (hS.ev rfl) (hS.ev rfl))) hM.fr fun a hS => ?_
            have hM := hM.pick [2, 0, 1, 3, 4, 5, 6] (by decide) rfl
            obtain ⟨w, hr, hM⟩ := hM.st_bx1 (n := 0) (cs' := [(Value.int IntKind.i64 (bAndNot x129 (shL 1 x175)))]) (ρ := a.eval) (dst := none) (ty := _) (pos := _) (af := _) (gd := _) (x := .tmp 5) (y := .tmp 34) (hS.ev rfl) (hS.ev rfl) ty_sz_3 rfl rfl rfl
            refine an_one hS (i := 9) rfl (by kernel_rfl) rfl ?_
            refine wp_unit hS rfl hr ⟨hM.fr, ?_⟩
            refine an_done (by kernel_rfl) ?_
            have hN := hM.pick [0, 1, 2] (by decide) rfl
            have hM := Mem.callo (A := [(true, ow 3 v127 (List.map (Value.int IntKind.i64) l128)), (true, bx b19 3 [(Value.int IntKind.i64 x129)])]) (B := [(true, ow 3 v174 (List.map (Value.int IntKind.i64) r173)), (true, ow 3 v162 (List.map (Value.int IntKind.i64) r161)), (true, bx b3 27 [(Value.int IntKind.i64 p0_g_Size), p0_g_Rowsv]), (false, rd p0_g_Rowsv (List.map (Value.int IntKind.i64) p0_g_Rows))]) hB rfl (hN.memS fun _ h => h) rfl
            cases hF
            exact hN2 _ _ _ rfl ⟨v177, (hS.sub (sub_cons rfl (sub_cons rfl (sub_cons rfl sub_nil)))), (hM.pick [5, 6, 1, 0] (by decide) rfl)⟩
          · refine wp_val hS rfl (by decide) (rv_load_bx (hS.ev rfl) ty_ag_3 (hM.get 2 rfl) rfl) fun a hS => ⟨hM.fr, ?_⟩
            refine an_take hS (i := 7) rfl (by kernel_rfl) (by kernel_rfl) (by kernel_rfl) rfl (by decide) (fun c a a' w hd h => hQp c a a' w hd h) rfl (fun w' hC' => (rv_andNot (hS.ev rfl) (hS.ev rfl))) hM.fr fun a hS => ?_
            obtain ⟨_, hx, hF⟩ := bind_some hF
            have hM := hM.pick [1, 0, 2, 3, 4, 5, 6] (by decide) rfl
            obtain ⟨v177, w, hr, hM⟩ := Mem.appE (f := (Value.int IntKind.i64)) (S := _) (R := [(true, ow 3 v176 (List.map (Value.int IntKind.i64) ([x175] : List (Int)))), (true, bx b19 3 [(Value.int IntKind.i64 x129)]), (false, ow 3 v174 (List.map (Value.int IntKind.i64) r173)), (false, ow 3 v162 (List.map (Value.int IntKind.i64) r161)), (false, bx b3 27 [(Value.int IntKind.i64 p0_g_Size), p0_g_Rowsv]), (false, rd p0_g_Rowsv (List.map (Value.int IntKind.i64) p0_g_Rows))]) (ρ := a.eval) (dst := some 30) (ty := _) (pos := _) (af := _) (gd := _) (x := .tmp 27) (y := .tmp 29) i64_one hM Try.underlying22 ty_el_3 rfl (by decide) (hS.ev rfl) (hS.ev rfl) (rd_of_ow (hM.get 1 rfl)) (catO_some hx)
            refine an_one hS (i := 3) rfl (by kernel_rfl) rfl ?_
            refine wp_val hS rfl (by decide) hr fun a hS => ⟨hM.fr, ?_⟩
            refine an_take hS (i := 8) rfl (by kernel_rfl) (by kernel_rfl) (by kernel_rfl) rfl (by decide) (fun c a a' w hd h => hQp c a a' w hd h) rfl (fun w' hC' => (rv_assign (hS.ev rfl))) hM.fr fun a hS => ?_
            have hM := hM.pick [2, 0, 1, 3, 4, 5, 6] (by decide) rfl
            obtain ⟨w, hr, hM⟩ := hM.st_bx1 (n := 0) (cs' := [(Value.int IntKind.i64 (bAndNot x129 (shL 1 x175)))]) (ρ := a.eval) (dst := none) (ty := _) (pos := _) (af := _) (gd := _) (x := .tmp 5) (y := .tmp 34) (hS.ev rfl) (hS.ev rfl) ty_sz_3 rfl rfl rfl
            refine an_one hS (i := 9) rfl (by kernel_rfl) rfl ?_
            refine wp_unit hS rfl hr ⟨hM.fr, ?_⟩
            refine an_done (by kernel_rfl) ?_
            have hN := hM.pick [0, 1, 2] (by decide) rfl
            have hM := Mem.callo (A := [(true, ow 3 v127 (List.map (Value.int IntKind.i64) l128)), (true, bx b19 3 [(Value.int IntKind.i64 x129)])]) (B := [(true, ow 3 v174 (List.map (Value.int IntKind.i64) r173)), (true, ow 3 v162 (List.map (Value.int IntKind.i64) r161)), (true, bx b3 27 [(Value.int IntKind.i64 p0_g_Size), p0_g_Rowsv]), (false, rd p0_g_Rowsv (List.map (Value.int IntKind.i64) p0_g_Rows))]) hB rfl (hN.memS fun _ h => h) rfl
            cases hF
            exact hN2 _ _ _ rfl ⟨v177, (hS.sub (sub_cons rfl (sub_cons rfl (sub_cons rfl sub_nil)))), (hM.pick [5, 6, 1, 0] (by decide) rfl)⟩
        · refine wp_val hS rfl (by decide) (rv_load_bx (hS.ev rfl) ty_ag_3 (hM.get 1 rfl) rfl) fun a hS => ⟨hM.fr, ?_⟩
          refine an_take hS (i := 7) rfl (by kernel_rfl) (by kernel_rfl) (by kernel_rfl) rfl (by decide) (fun c a a' w hd h => hQp c a a' w hd h) rfl (fun w' hC' => (rv_andNot (hS.ev rfl) (hS.ev rfl))) hM.fr fun a hS => ?_
          obtain ⟨v176, w, hr, hM⟩ := Mem.litE (f := (Value.int IntKind.i64)) (dst := some 29) (ty := _) (pos := _) (af := _) (gd := _) (ps := [(0, .tmp 28)]) ([x175] : List (Int)) i64_one hM hS Try.underlying22 ty_el_3 rfl rfl rfl rfl
          refine an_one hS (i := 2) rfl (by kernel_rfl) rfl ?_
          refine wp_val hS rfl (by decide) hr fun a hS => ⟨hM.fr, ?_⟩
          obtain ⟨_, hx, hF⟩ := bind_some hF
          have hM := hM.pick [1, 0, 2, 3, 4, 5, 6] (by decide) rfl
          obtain ⟨v177, w, hr, hM⟩ := Mem.appE (f := (Value.int IntKind.i64)) (S := _) (R := [(true, ow 3 v176 (List.map (Value.int IntKind.i64) ([x175] : List (Int)))), (true, bx b19 3 [(Value.int IntKind.i64 x129)]), (false, ow 3 v174 (List.map (Value.int IntKind.i64) r173)), (false, ow 3 v162 (List.map (Value.int IntKind.i64) r161)), (false, bx b3 27 [(Value.int IntKind.i64 p0_g_Size), p0_g_Rowsv]), (false, rd p0_g_Rowsv (List.map (Value.int IntKind.i64) p0_g_Rows))]) (ρ := a.eval) (dst := some 30) (ty := _) (pos := _) (af := _) (gd := _) (x := .tmp 27) (y := .tmp 29) i64_one hM Try.underlying22 ty_el_3 rfl (by decide) (hS.ev rfl) (hS.ev rfl) (rd_of_ow (hM.get 1 rfl)) (catO_some hx)
          refine an_one hS (i := 3) rfl (by kernel_rfl) rfl ?_
          refine wp_val hS rfl (by decide) hr fun a hS => ⟨hM.fr, ?_⟩
          refine an_take hS (i := 8) rfl (by kernel_rfl) (by kernel_rfl) (by kernel_rfl) rfl (by decide) (fun c a a' w hd h => hQp c a a' w hd h) rfl (fun w' hC' => (rv_assign (hS.ev rfl))) hM.fr fun a hS => ?_
          have hM := hM.pick [2, 0, 1, 3, 4, 5, 6] (by decide) rfl
          obtain ⟨w, hr, hM⟩ := hM.st_bx1 (n := 0) (cs' := [(Value.int IntKind.i64 (bAndNot x129 (shL 1 x175)))]) (ρ := a.eval) (dst := none) (ty := _) (pos := _) (af := _) (gd := _) (x := .tmp 5) (y := .tmp 34) (hS.ev rfl) (hS.ev rfl) ty_sz_3 rfl rfl rfl
          refine an_one hS (i := 9) rfl (by kernel_rfl) rfl ?_
          refine wp_unit hS rfl hr ⟨hM.fr, ?_⟩
          refine an_done (by kernel_rfl) ?_
          have hN := hM.pick [0, 1, 2] (by decide) rfl
          have hM := Mem.callo (A := [(true, ow 3 v127 (List.map (Value.int IntKind.i64) l128)), (true, bx b19 3 [(Value.int IntKind.i64 x129)])]) (B := [(true, ow 3 v174 (List.map (Value.int IntKind.i64) r173)), (true, ow 3 v162 (List.map (Value.int IntKind.i64) r161)), (true, bx b3 27 [(Value.int IntKind.i64 p0_g_Size), p0_g_Rowsv]), (false, rd p0_g_Rowsv (List.map (Value.int IntKind.i64) p0_g_Rows))]) hB rfl (hN.memS fun _ h => h) rfl
          cases hF
          exact hN2 _ _ _ rfl ⟨v177, (hS.sub (sub_cons rfl (sub_cons rfl (sub_cons rfl sub_nil)))), (hM.pick [5, 6, 1, 0] (by decide) rfl)⟩
    · refine cond_f hS rfl hc ?_
      refine wp_exit ?_
      cases hF
      exact hJ1 l128 v127 _ _ (hS.sub (sub_cons rfl sub_nil)) (hM.pick [2] (by decide) rfl) (by have e := hX2 _ rfl; subst e; exact hF2)


theorem c_impl_IsChordal (F : Nat) (p0_g_Size : Int) (p0_g_Rows : List Int) (p0_g_Rowsv : Value) {r : Bool} (hF : S_impl_IsChordal F p0_g_Size p0_g_Rows = some r) (w0 : World) (h0 : RdRow w0 p0_g_Rowsv (List.map (Value.int IntKind.i64) p0_g_Rows)) :
    Calls Try.prog 32 [(Value.agg #[(Value.int IntKind.i64 p0_g_Size), p0_g_Rowsv])].toArray w0 (retPost fun v w' => v = (Value.bool r) ∧ Mem Nob w0 w' []) := by
  have hM : Mem Nob w0 w0 [(false, rd p0_g_Rowsv (List.map (Value.int IntKind.i64) p0_g_Rows))] := (Mem.rcons (Mem.nil w0) h0 (by simp))
  refine enter2 Try.func32 rfl rfl rfl fun Q a hQr hQn hQp hS => ?_
  have hS : Sl 11 [(0, (Value.agg #[(Value.int IntKind.i64 p0_g_Size), p0_g_Rowsv]))] a := hS
  unfold S_impl_IsChordal at hF
  refine wp_seq_k fun K1 hK1 => ?_
  refine wp_region_lit ?_
  obtain ⟨b3, w, hr, hM⟩ := hM.boxE (ρ := a.eval) (dst := some 1) (ty := _) (pos := _) (af := _) (gd := _) (x := .tmp 0) (T := 27) [(Value.int IntKind.i64 p0_g_Size), p0_g_Rowsv] (hS.ev rfl) rfl
  refine st_val hS rfl rfl (by decide) hr fun a hS => ?_
  refine st_val hS rfl rfl (by decide) (rv_assign (hS.ev rfl)) fun a hS => ?_
  refine wpList_nil ?_
  refine hK1 _ _ ?_
  refine wp_seq_k fun K4 hK4 => ?_
  refine wp_region_lit ?_
  refine st_val hS rfl rfl (by decide) (rv_load_agg (hS.ev rfl) ty_ag_27 (hM.get 0 rfl) ty_sz_27) fun a hS => ?_
  obtain ⟨r7, hr, hF⟩ := bind_some hF
  refine st_wp hS rfl (wp_call hS rfl rfl (by decide) fn_ok_39 rfl (c_impl_EliminationOf F p0_g_Size p0_g_Rows p0_g_Rowsv hr _ (hM.get 1 rfl)) fun v w a hK hS => ?_)
  obtain ⟨v8, rfl, hN⟩ := hK
  have hM := hM.add hN rfl
  refine st_val hS rfl rfl (by decide) (rv_move (hS.ev rfl)) fun a hS => ?_
  refine st_val hS rfl rfl (by decide) (rv_extract (hS.ev rfl) rfl) fun a hS => ?_
  refine st_val hS rfl rfl (by decide) (rv_extract (hS.ev rfl) rfl) fun a hS => ?_
  refine st_val hS rfl rfl (by decide) (rv_assign (hS.ev rfl)) fun a hS => ?_
  refine st_val hS rfl rfl (by decide) (rv_assign (hS.ev rfl)) fun a hS => ?_
  refine wpList_nil ?_
  refine hK4 _ _ ?_
  refine wp_seq_k fun K9 hK9 => ?_
  refine wp_region_lit ?_
  refine st_val hS rfl rfl (by decide) (rv_move (hS.ev rfl)) fun a hS => ?_
  refine st_val hS rfl rfl (by decide) (rv_assign (hS.ev rfl)) fun a hS => ?_
  refine wpList_nil ?_
  refine hK9 _ _ ?_
  refine wp_ret ?_
  cases hF
  exact hQr _ _ (r_1 hS rfl rfl ⟨rfl, hM.pick [] (by decide) rfl⟩)


theorem c_laws_FnExactIsChordal (F : Nat) (p0_aG_Size : Int) (p0_aG_Rows : List Int) (p0_aG_Rowsv : Value) {r : Bool} (hF : S_laws_FnExactIsChordal F p0_aG_Size p0_aG_Rows = some r) (w0 : World) (h0 : RdRow w0 p0_aG_Rowsv (List.map (Value.int IntKind.i64) p0_aG_Rows)) :
    Calls Try.prog 7 [(Value.agg #[(Value.int IntKind.i64 p0_aG_Size), p0_aG_Rowsv])].toArray w0 (retPost fun v w' => v = (Value.bool r) ∧ Mem Nob w0 w' []) := by
  have hM : Mem Nob w0 w0 [(false, rd p0_aG_Rowsv (List.map (Value.int IntKind.i64) p0_aG_Rows))] := (Mem.rcons (Mem.nil w0) h0 (by simp))
  refine enter2 Try.func7 rfl rfl rfl fun Q a hQr hQn hQp hS => ?_
  have hS : Sl 27 [(0, (Value.agg #[(Value.int IntKind.i64 p0_aG_Size), p0_aG_Rowsv]))] a := hS
  unfold S_laws_FnExactIsChordal at hF
  refine wp_seq_k fun K1 hK1 => ?_
  refine wp_region_lit ?_
  obtain ⟨b3, w, hr, hM⟩ := hM.boxE (ρ := a.eval) (dst := some 1) (ty := _) (pos := _) (af := _) (gd := _) (x := .tmp 0) (T := 24) [(Value.int IntKind.i64 p0_aG_Size), p0_aG_Rowsv] (hS.ev rfl) rfl
  refine st_val hS rfl rfl (by decide) hr fun a hS => ?_
  refine st_val hS rfl rfl (by decide) (rv_assign (hS.ev rfl)) fun a hS => ?_
  refine wpList_nil ?_
  refine hK1 _ _ ?_
  refine wp_seq_k fun K4 hK4 => ?_
  refine wp_region_lit ?_
  refine st_val hS rfl rfl (by decide) (rv_assign (hS.ev rfl)) fun a hS => ?_
  refine wpList_nil ?_
  refine hK4 _ _ ?_
  refine wp_seq_k fun K5 hK5 => ?_
  refine wp_region_lit ?_
  refine st_val hS rfl rfl (by decide) (rv_load_agg (hS.ev rfl) ty_ag_24 (hM.get 0 rfl) ty_sz_24) fun a hS => ?_
  refine st_val hS rfl rfl (by decide) (rv_move (hS.ev rfl)) fun a hS => ?_
  obtain ⟨r7, hr, hF⟩ := bind_some hF
  refine st_wp hS rfl (wp_call hS rfl rfl (by decide) fn_ok_15 rfl (c_laws_szGraph F p0_aG_Size p0_aG_Rows 1048576 p0_aG_Rowsv hr _ (hM.get 1 rfl)) fun v w a hK hS => ?_)
  obtain ⟨rfl, hN⟩ := hK
  have hM := hM.fra hN.fr
  refine st_val hS rfl rfl (by decide) (rv_assign (hS.ev rfl)) fun a hS => ?_
  refine wpList_nil ?_
  refine hK5 _ _ ?_
  refine wp_seq_k fun K8 hK8 => ?_
  refine wp_seq_k fun K11 hK11 => ?_
  refine wp_region_lit ?_
  refine st_val hS rfl rfl (by decide) (rv_move (hS.ev rfl)) fun a hS => ?_
  refine st_val hS rfl rfl (by decide) (rv_lss (hS.ev rfl) (hS.ev rfl)) fun a hS => ?_
  refine wpList_nil ?_
  refine hK11 _ _ ?_
  rcases ite_some hF with ⟨hc, hF⟩ | ⟨hc, hF⟩
  · refine cond_t hS rfl hc ?_
    refine wp_seq_k fun K12 hK12 => ?_
    refine wp_region_lit ?_
    refine st_val hS rfl rfl (by decide) (rv_assign (hS.ev rfl)) fun a hS => ?_
    refine wpList_nil ?_
    refine hK12 _ _ ?_
    refine wp_ret ?_
    cases hF
    exact hQr _ _ (r_1 hS rfl rfl ⟨rfl, hM.pick [] (by decide) rfl⟩)
  · refine cond_f hS rfl hc ?_
    refine wp_skip ?_
    refine hK8 _ _ ?_
    refine wp_seq_k fun K13 hK13 => ?_
    refine wp_region_lit ?_
    refine st_val hS rfl rfl (by decide) (rv_load_agg (hS.ev rfl) ty_ag_24 (hM.get 0 rfl) ty_sz_24) fun a hS => ?_
    obtain ⟨r17, hr, hF⟩ := bind_some hF
    refine st_wp hS rfl (wp_call hS rfl rfl (by decide) fn_ok_17 rfl (c_laws_toGraph F p0_aG_Size p0_aG_Rows p0_aG_Rowsv hr _ (hM.get 1 rfl)) fun v w a hK hS => ?_)
    obtain ⟨v18, rfl, hN⟩ := hK
    have hM := hM.add hN rfl
    obtain ⟨r19, hr, hF⟩ := bind_some hF
    refine st_wp hS rfl (wp_call hS rfl rfl (by decide) fn_ok_31 rfl (c_spec_IsChordal F r17.1 r17.2 v18 hr _ (rd_of_ow (hM.get 0 rfl))) fun v w a hK hS => ?_)
    obtain ⟨rfl, hN⟩ := hK
    have hM := hM.fra hN.fr
    refine st_val hS rfl rfl (by decide) (rv_assign (hS.ev rfl)) fun a hS => ?_
    refine wpList_nil ?_
    refine hK13 _ _ ?_
    refine wp_seq_k fun K20 hK20 => ?_
    refine wp_region_lit ?_
    refine st_val hS rfl rfl (by decide) (rv_load_agg (hS.ev rfl) ty_ag_24 (hM.get 1 rfl) ty_sz_24) fun a hS => ?_
    obtain ⟨r24, hr, hF⟩ := bind_some hF
    refine st_wp hS rfl (wp_call hS rfl rfl (by decide) fn_ok_17 rfl (c_laws_toGraph F p0_aG_Size p0_aG_Rows p0_aG_Rowsv hr _ (hM.get 2 rfl)) fun v w a hK hS => ?_)
    obtain ⟨v25, rfl, hN⟩ := hK
    have hM := hM.add hN rfl
    obtain ⟨b26, w, hr, hM⟩ := hM.allocE (ρ := a.eval) (dst := some 5) (ty := _) (pos := _) (af := _) (gd := _) (T := 27) (P := Try.prog) [(Value.int IntKind.i64 0), (Value.slice none 0 0)] ty_zr_27 rfl
    refine st_val hS rfl rfl (by decide) hr fun a hS => ?_
    have hM := hM.addNil 3
    have hM := hM.pick [1, 0, 2, 3, 4, 5] (by decide) rfl
    obtain ⟨w, hr, hM⟩ := hM.st_agg (us := [(Value.int IntKind.i64 r24.1), v25]) (ρ := a.eval) (dst := none) (ty := _) (pos := _) (af := _) (gd := _) (x := .tmp 5) (y := .tmp 16) (hS.ev rfl) (hS.ev rfl) ty_sz_27 (all1_cons rfl (all1_cons (rd_one (rd_of_ow (hM.get 2 rfl))) all1_nil)) rfl
    refine st_unit hS rfl rfl hr ?_
    refine wpList_nil ?_
    refine hK20 _ _ ?_
    refine wp_seq_k fun K27 hK27 => ?_
    refine wp_region_lit ?_
    refine st_val hS rfl rfl (by decide) (rv_load_agg (hS.ev rfl) ty_ag_27 (hM.get 0 rfl) ty_sz_27) fun a hS => ?_
    obtain ⟨r29, hr, hF⟩ := bind_some hF
    refine st_wp hS rfl (wp_call hS rfl rfl (by decide) fn_ok_32 rfl (c_impl_IsChordal F r24.1 r24.2 v25 hr _ (rd_of_ow (hM.get 2 rfl))) fun v w a hK hS => ?_)
    obtain ⟨rfl, hN⟩ := hK
    have hM := hM.fra hN.fr
    refine st_val hS rfl rfl (by decide) (rv_assign (hS.ev rfl)) fun a hS => ?_
    refine wpList_nil ?_
    refine hK27 _ _ ?_
    refine wp_seq_k fun K30 hK30 => ?_
    refine wp_seq_k fun K33 hK33 => ?_
    refine wp_region_lit ?_
    refine st_val hS rfl rfl (by decide) (rv_move (hS.ev rfl)) fun a hS => ?_
    refine st_val hS rfl rfl (by decide) (rv_move (hS.ev rfl)) fun a hS => ?_
    refine st_val hS rfl rfl (by decide) (rv_bneq Try.underlying4 (hS.ev rfl) (hS.ev rfl)) fun a hS => ?_
    refine wpList_nil ?_
    refine hK33 _ _ ?_
    rcases ite_some hF with ⟨hc, hF⟩ | ⟨hc, hF⟩
    · refine cond_t hS rfl hc ?_
      refine wp_seq_k fun K34 hK34 => ?_
      refine wp_region_lit ?_
      refine st_val hS rfl rfl (by decide) (rv_assign (hS.ev rfl)) fun a hS => ?_
      refine wpList_nil ?_
      refine hK34 _ _ ?_
      refine wp_ret ?_
      cases hF
      exact hQr _ _ (r_1 hS rfl rfl ⟨rfl, hM.pick [] (by decide) rfl⟩)
    · refine cond_f hS rfl hc ?_
      refine wp_skip ?_
      refine hK30 _ _ ?_
      refine wp_seq_k fun K35 hK35 => ?_
      refine wp_seq_k fun K44 hK44 => ?_
      refine an_start Nob ty_mixed fun w hf => ?_
      have hM := hM.fra hf
      have hB := hM
      have hM := hB.reg0
      refine an_take hS (i := 0) rfl (by kernel_rfl) (by kernel_rfl) (by kernel_rfl) rfl (by decide) (fun c a a' w hd h => hQp c a a' w hd h) rfl (fun w' hC' => (rv_load_agg (hS.ev rfl) ty_ag_27 ((hB.fra hC').get 0 rfl) ty_sz_27)) hM.fr fun a hS => ?_
      refine an_take hS (i := 1) rfl (by kernel_rfl) (by kernel_rfl) (by kernel_rfl) rfl (by decide) (fun c a a' w hd h => hQp c a a' w hd h) rfl (fun w' hC' => (rv_load_agg (hS.ev rfl) ty_ag_24 ((hB.fra hC').get 4 rfl) ty_sz_24)) hM.fr fun a hS => ?_
      obtain ⟨r48, hr, hF⟩ := bind_some hF
      refine an_one hS (i := 2) rfl (by kernel_rfl) rfl ?_
      refine wp_call hS rfl rfl (by decide) fn_ok_17 rfl (c_laws_toGraph F p0_aG_Size p0_aG_Rows p0_aG_Rowsv hr _ (hM.get 5 rfl)) fun v w a hK hS => ?_
      obtain ⟨v49, rfl, hN⟩ := hK
      have hM := hM.add hN rfl
      refine ⟨hM.fr, ?_⟩
      obtain ⟨r50, hr, hF⟩ := bind_some hF
      refine an_one hS (i := 3) rfl (by kernel_rfl) rfl ?_
      refine wp_call hS rfl rfl (by decide) fn_ok_20 rfl (c_laws_eqGraph F r24.1 r24.2 r48.1 r48.2 v25 v49 hr _ (rd_of_ow (hM.get 3 rfl)) (rd_of_ow (hM.get 0 rfl))) fun v w a hK hS => ?_
      obtain ⟨rfl, hN⟩ := hK
      have hM := hM.fra hN.fr
      refine ⟨hM.fr, ?_⟩
      refine an_take hS (i := 4) rfl (by kernel_rfl) (by kernel_rfl) (by kernel_rfl) rfl (by decide) (fun c a a' w hd h => hQp c a a' w hd h) rfl (fun w' hC' => (rv_not (hS.ev rfl))) hM.fr fun a hS => ?_
      refine an_done (by kernel_rfl) ?_
      have hN := hM.pick [0] (by decide) rfl
      have hM := Mem.callo (A := []) (B := [(true, bx b26 27 [(Value.int IntKind.i64 r24.1), v25]), (true, ow 3 (Value.slice none 0 0) (List.map (Value.int IntKind.i64) ([] : List (Int)))), (true, ow 3 v25 (List.map (Value.int IntKind.i64) r24.2)), (true, ow 3 v18 (List.map (Value.int IntKind.i64) r17.2)), (true, bx b3 24 [(Value.int IntKind.i64 p0_aG_Size), p0_aG_Rowsv]), (false, rd p0_aG_Rowsv (List.map (Value.int IntKind.i64) p0_aG_Rows))]) hB rfl (hN.memS fun _ h => h.elim) rfl
      refine hK44 _ _ ?_
      rcases ite_some hF with ⟨hc, hF⟩ | ⟨hc, hF⟩
      · refine cond_t hS rfl hc ?_
        refine wp_seq_k fun K51 hK51 => ?_
        refine wp_region_lit ?_
        refine st_val hS rfl rfl (by decide) (rv_assign (hS.ev rfl)) fun a hS => ?_
        refine wpList_nil ?_
        refine hK51 _ _ ?_
        refine wp_ret ?_
        cases hF
        exact hQr _ _ (r_1 hS rfl rfl ⟨rfl, hM.pick [] (by decide) rfl⟩)
      · refine cond_f hS rfl hc ?_
        refine wp_skip ?_
        refine hK35 _ _ ?_
        refine wp_seq_k fun K52 hK52 => ?_
        refine wp_region_lit ?_
        refine st_val hS rfl rfl (by decide) (rv_assign (hS.ev rfl)) fun a hS => ?_
        refine wpList_nil ?_
        refine hK52 _ _ ?_
        refine wp_ret ?_
        cases hF
        exact hQr _ _ (r_1 hS rfl rfl ⟨rfl, hM.pick [] (by decide) rfl⟩)


end Go.Proofs.Ytnlabnkgcncmlaa
