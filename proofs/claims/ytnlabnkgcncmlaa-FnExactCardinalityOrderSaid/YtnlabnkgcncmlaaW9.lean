/- Proved here: that each Go function does what its shallow function says -/
import Derived.Test.YtnlabnkgcncmlaaSh
import Derived.Test.YtnlabnkgcncmlaaTy
import Derived.Test.YtnlabnkgcncmlaaK9
import Derived.Test.YtnlabnkgcncmlaaW0
import Derived.Test.YtnlabnkgcncmlaaW1
import Derived.Test.YtnlabnkgcncmlaaW2
import Derived.Test.YtnlabnkgcncmlaaW3
import Derived.Test.YtnlabnkgcncmlaaW4
namespace Go.Proofs.Ytnlabnkgcncmlaa
open Go Go.RowKit
set_option linter.unusedVariables false
set_option linter.unusedSimpArgs false
set_option maxRecDepth 100000
set_option maxHeartbeats 4000000

theorem c_spec_CountSet (F : Nat) (p0_set : Int) {r : Int} (hF : S_spec_CountSet F p0_set = some r) (w0 : World) :
    Calls Try.prog 75 [(Value.int IntKind.i64 p0_set)].toArray w0 (retPost fun v w' => v = (Value.int IntKind.i64 r) ∧ Mem Nob w0 w' []) := by
  have hM : Mem Nob w0 w0 [] := (Mem.nil w0)
  refine enter2 Try.func75 rfl rfl rfl fun Q a hQr hQn hQp hS => ?_
  have hS : Sl 6 [(0, (Value.int IntKind.i64 p0_set))] a := hS
  unfold S_spec_CountSet at hF
  refine wp_seq_k fun K1 hK1 => ?_
  refine wp_region_lit ?_
  refine st_val hS rfl rfl (by decide) (rv_assign (hS.ev rfl)) fun a hS => ?_
  refine wpList_nil ?_
  refine hK1 _ _ ?_
  refine wp_seq_k fun K2 hK2 => ?_
  refine wp_region_lit ?_
  refine st_val hS rfl rfl (by decide) (rv_move (hS.ev rfl)) fun a hS => ?_
  obtain ⟨r5, hr, hF⟩ := bind_some hF
  refine st_wp hS rfl (wp_call hS rfl rfl (by decide) fn_ok_67 rfl (c_spec_ListOf F p0_set hr _) fun v6 w a hK hS => ?_)
  have hN := hK
  have hM := hM.add hN rfl
  refine st_val hS rfl rfl (by decide) (rv_len_rowM Try.underlying22 (hS.ev rfl) (rd_of_ow (hM.get 0 rfl))) fun a hS => ?_
  refine st_val hS rfl rfl (by decide) (rv_assign (hS.ev rfl)) fun a hS => ?_
  refine wpList_nil ?_
  refine hK2 _ _ ?_
  refine wp_ret ?_
  cases hF
  exact hQr _ _ (r_1 hS rfl rfl ⟨rfl, hM.pick [] (by decide) rfl⟩)


theorem c_spec_CardinalityOrder (F : Nat) (p0_g_Size : Int) (p0_g_Rows : List Int) (p1_start : Int) (p0_g_Rowsv : Value) {r : (List (Int)) × Bool} (hF : S_spec_CardinalityOrder F p0_g_Size p0_g_Rows p1_start = some r) (w0 : World) (h0 : RdRow w0 p0_g_Rowsv (List.map (Value.int IntKind.i64) p0_g_Rows)) :
    Calls Try.prog 42 [(Value.agg #[(Value.int IntKind.i64 p0_g_Size), p0_g_Rowsv]), (Value.int IntKind.i64 p1_start)].toArray w0 (retPost fun v w' => ∃ v465, v = (Value.tuple #[v465, (Value.bool r.2)]) ∧ Mem Nob w0 w' [(true, ow 3 v465 (List.map (Value.int IntKind.i64) r.1))]) := by
  have hM : Mem Nob w0 w0 [(false, rd p0_g_Rowsv (List.map (Value.int IntKind.i64) p0_g_Rows))] := (Mem.rcons (Mem.nil w0) h0 (by simp))
  refine enter2 Try.func42 rfl rfl rfl fun Q a hQr hQn hQp hS => ?_
  have hS : Sl 70 [(0, (Value.agg #[(Value.int IntKind.i64 p0_g_Size), p0_g_Rowsv])), (1, (Value.int IntKind.i64 p1_start))] a := hS
  unfold S_spec_CardinalityOrder at hF
  refine wp_seq_k fun K1 hK1 => ?_
  refine wp_region_lit ?_
  obtain ⟨b3, w, hr, hM⟩ := hM.boxE (ρ := a.eval) (dst := some 2) (ty := _) (pos := _) (af := _) (gd := _) (x := .tmp 0) (T := 27) [(Value.int IntKind.i64 p0_g_Size), p0_g_Rowsv] (hS.ev rfl) rfl
  refine st_val hS rfl rfl (by decide) hr fun a hS => ?_
  refine st_val hS rfl rfl (by decide) (rv_assign (hS.ev rfl)) fun a hS => ?_
  refine st_val hS rfl rfl (by decide) (rv_assign (hS.ev rfl)) fun a hS => ?_
  refine wpList_nil ?_
  refine hK1 _ _ ?_
  refine wp_seq_k fun K4 hK4 => ?_
  refine wp_seq_k fun K12 hK12 => ?_
  have hJ1 : ∀ (p14 : Bool) (a : Act) (w : World), Sl 70 [(1, (Value.int IntKind.i64 p1_start)), (2, (fdp b3 0)), (24, (Value.bool p14))] a → Mem Nob w0 w [(true, bx b3 27 [(Value.int IntKind.i64 p0_g_Size), p0_g_Rowsv]), (false, rd p0_g_Rowsv (List.map (Value.int IntKind.i64) p0_g_Rows))] → S_spec_CardinalityOrder_j1 F p0_g_Size p0_g_Rows p1_start p14 = some r → K12 a w := by
    intro p14 a w hS hM hF
    unfold S_spec_CardinalityOrder_j1 at hF
    refine hK12 _ _ ?_
    rcases ite_some hF with ⟨hc, hF⟩ | ⟨hc, hF⟩
    · refine cond_t hS rfl hc ?_
      refine wp_seq_k fun K15 hK15 => ?_
      refine wp_region_lit ?_
      obtain ⟨v17, w, hr, hM⟩ := Mem.litE (f := (Value.int IntKind.i64)) (dst := some 25) (ty := _) (pos := _) (af := _) (gd := _) (ps := []) ([] : List (Int)) i64_one hM hS Try.underlying22 ty_el_3 rfl rfl rfl rfl
      refine st_val hS rfl rfl (by decide) hr fun a hS => ?_
      refine st_val hS rfl rfl (by decide) (rv_assign (hS.ev rfl)) fun a hS => ?_
      refine st_val hS rfl rfl (by decide) (rv_assign (hS.ev rfl)) fun a hS => ?_
      refine wpList_nil ?_
      refine hK15 _ _ ?_
      refine wp_ret ?_
      cases hF
      exact hQr _ _ (r_2 hS rfl rfl rfl ⟨v17, rfl, hM.pick [0] (by decide) rfl⟩)
    · refine cond_f hS rfl hc ?_
      refine wp_skip ?_
      refine hK4 _ _ ?_
      refine wp_seq_k fun K18 hK18 => ?_
      refine wp_region_lit ?_
      refine st_val hS rfl rfl (by decide) (rv_move (hS.ev rfl)) fun a hS => ?_
      obtain ⟨v20, w, hr, hM⟩ := Mem.litE (f := (Value.int IntKind.i64)) (dst := some 27) (ty := _) (pos := _) (af := _) (gd := _) (ps := [(0, .tmp 26)]) ([p1_start] : List (Int)) i64_one hM hS Try.underlying22 ty_el_3 rfl rfl rfl rfl
      refine st_val hS rfl rfl (by decide) hr fun a hS => ?_
      refine st_val hS rfl rfl (by decide) (rv_assign (hS.ev rfl)) fun a hS => ?_
      refine wpList_nil ?_
      refine hK18 _ _ ?_
      refine wp_seq_k fun K21 hK21 => ?_
      refine wp_region_lit ?_
      refine st_val hS rfl rfl (by decide) (rv_move (hS.ev rfl)) fun a hS => ?_
      obtain ⟨_, hx, hF⟩ := bind_some hF
      have hi0 := nnO_some hx
      refine st_val hS rfl rfl (by decide) (rv_shl (hS.ev rfl) (hS.ev rfl) hi0) fun a hS => ?_
      refine st_val hS rfl rfl (by decide) (rv_assign (hS.ev rfl)) fun a hS => ?_
      refine wpList_nil ?_
      refine hK21 _ _ ?_
      refine wp_seq_k fun K22 hK22 => ?_
      have hJ2 : ∀ (l243 : List Int) (v242 : Value) (a : Act) (w : World), Sl 70 [(6, v242)] a → Mem Nob w0 w [(true, ow 3 v242 (List.map (Value.int IntKind.i64) l243))] → S_spec_CardinalityOrder_j2 F l243 = some r → K22 a w := by
        intro l243 v242 a w hS hM hF
        unfold S_spec_CardinalityOrder_j2 at hF
        refine hK22 _ _ ?_
        refine wp_seq_k fun K244 hK244 => ?_
        refine wp_region_lit ?_
        refine st_val hS rfl rfl (by decide) (rv_move (hS.ev rfl)) fun a hS => ?_
        refine st_val hS rfl rfl (by decide) (rv_assign (hS.ev rfl)) fun a hS => ?_
        refine st_val hS rfl rfl (by decide) (rv_assign (hS.ev rfl)) fun a hS => ?_
        refine wpList_nil ?_
        refine hK244 _ _ ?_
        refine wp_ret ?_
        cases hF
        exact hQr _ _ (r_2 hS rfl rfl rfl ⟨v242, rfl, hM.pick [0] (by decide) rfl⟩)
      refine wp_block ?_
      obtain ⟨lb3, hl3, hF3⟩ := bind_some hF
      refine wp_loop_sh (fun s => S_spec_CardinalityOrder_l3 F p0_g_Size p0_g_Rows s.1 s.2) (fun s a w => ∃ (v245 : Value), Sl 70 [(2, (fdp b3 0)), (6, v245), (7, (Value.int IntKind.i64 s.2))] a ∧ Mem Nob w0 w [(true, bx b3 27 [(Value.int IntKind.i64 p0_g_Size), p0_g_Rowsv]), (false, rd p0_g_Rowsv (List.map (Value.int IntKind.i64) p0_g_Rows)), (true, ow 3 v245 (List.map (Value.int IntKind.i64) s.1))]) hl3 ⟨v20, (hS.sub (sub_cons rfl (sub_cons rfl (sub_cons rfl sub_nil)))), (hM.pick [1, 2, 0] (by decide) rfl)⟩ ?_
      rintro K3 ⟨l246, x247⟩ a w res3 ⟨v245, hS, hM⟩ hF hN3 hX3
      have hF : S_spec_CardinalityOrder_l3 F p0_g_Size p0_g_Rows l246 x247 = some res3 := hF
      have hS : Sl 70 [(2, (fdp b3 0)), (6, v245), (7, (Value.int IntKind.i64 x247))] a := hS
      have hM : Mem Nob w0 w [(true, bx b3 27 [(Value.int IntKind.i64 p0_g_Size), p0_g_Rowsv]), (false, rd p0_g_Rowsv (List.map (Value.int IntKind.i64) p0_g_Rows)), (true, ow 3 v245 (List.map (Value.int IntKind.i64) l246))] := hM
      unfold S_spec_CardinalityOrder_l3 at hF
      refine wp_seq_k fun K356 hK356 => ?_
      refine wp_seq_k fun K358 hK358 => ?_
      refine wp_region_lit ?_
      refine st_val hS rfl rfl (by decide) (rv_move (hS.ev rfl)) fun a hS => ?_
      refine st_val hS rfl rfl (by decide) (rv_len_rowM Try.underlying22 (hS.ev rfl) (rd_of_ow (hM.get 2 rfl))) fun a hS => ?_
      refine st_val hS rfl rfl (by decide) (rv_fieldAddr ty_fd_27_0 (hS.ev rfl)) fun a hS => ?_
      refine st_val hS rfl rfl (by decide) (rv_load_bx (hS.ev rfl) ty_ag_3 (hM.get 0 rfl) rfl) fun a hS => ?_
      refine st_val hS rfl rfl (by decide) (rv_lss (hS.ev rfl) (hS.ev rfl)) fun a hS => ?_
      refine wpList_nil ?_
      refine hK358 _ _ ?_
      rcases ite_some hF with ⟨hc, hF⟩ | ⟨hc, hF⟩
      · refine cond_t hS rfl hc ?_
        refine wp_skip ?_
        refine hK356 _ _ ?_
        refine wp_block ?_
        refine wp_seq_k fun K359 hK359 => ?_
        refine wp_region_lit ?_
        refine st_val hS rfl rfl (by decide) (rv_assign (hS.ev rfl)) fun a hS => ?_
        refine wpList_nil ?_
        refine hK359 _ _ ?_
        refine wp_seq_k fun K360 hK360 => ?_
        refine wp_region_lit ?_
        refine st_val hS rfl rfl (by decide) (rv_assign (hS.ev rfl)) fun a hS => ?_
        refine wpList_nil ?_
        refine hK360 _ _ ?_
        refine wp_seq_k fun K361 hK361 => ?_
        have hJ4 : ∀ (x410 : Int) (a : Act) (w : World), Sl 70 [(2, (fdp b3 0)), (6, v245), (7, (Value.int IntKind.i64 x247)), (8, (Value.int IntKind.i64 x410))] a → Mem Nob w0 w [(true, bx b3 27 [(Value.int IntKind.i64 p0_g_Size), p0_g_Rowsv]), (false, rd p0_g_Rowsv (List.map (Value.int IntKind.i64) p0_g_Rows)), (true, ow 3 v245 (List.map (Value.int IntKind.i64) l246))] → S_spec_CardinalityOrder_j4 F l246 x247 x410 = some res3 → K361 a w := by
          intro x410 a w hS hM hF
          unfold S_spec_CardinalityOrder_j4 at hF
          refine hK361 _ _ ?_
          refine wp_seq_k fun K411 hK411 => ?_
          refine wp_region_lit ?_
          refine st_val hS rfl rfl (by decide) (rv_move (hS.ev rfl)) fun a hS => ?_
          refine st_val hS rfl rfl (by decide) (rv_move (hS.ev rfl)) fun a hS => ?_
          obtain ⟨v414, w, hr, hM⟩ := Mem.litE (f := (Value.int IntKind.i64)) (dst := some 63) (ty := _) (pos := _) (af := _) (gd := _) (ps := [(0, .tmp 62)]) ([x410] : List (Int)) i64_one hM hS Try.underlying22 ty_el_3 rfl rfl rfl rfl
          refine st_val hS rfl rfl (by decide) hr fun a hS => ?_
          obtain ⟨_, hx, hF⟩ := bind_some hF
          have hM := hM.pick [3, 0, 1, 2] (by decide) rfl
          obtain ⟨v415, w, hr, hM⟩ := Mem.appE (f := (Value.int IntKind.i64)) (S := _) (R := [(true, ow 3 v414 (List.map (Value.int IntKind.i64) ([x410] : List (Int)))), (true, bx b3 27 [(Value.int IntKind.i64 p0_g_Size), p0_g_Rowsv]), (false, rd p0_g_Rowsv (List.map (Value.int IntKind.i64) p0_g_Rows))]) (ρ := a.eval) (dst := some 64) (ty := _) (pos := _) (af := _) (gd := _) (x := .tmp 61) (y := .tmp 63) i64_one hM Try.underlying22 ty_el_3 rfl (by decide) (hS.ev rfl) (hS.ev rfl) (rd_of_ow (hM.get 1 rfl)) (catO_some hx)
          refine st_val hS rfl rfl (by decide) hr fun a hS => ?_
          refine st_val hS rfl rfl (by decide) (rv_assign (hS.ev rfl)) fun a hS => ?_
          refine wpList_nil ?_
          refine hK411 _ _ ?_
          refine wp_region_lit ?_
          refine st_val hS rfl rfl (by decide) (rv_move (hS.ev rfl)) fun a hS => ?_
          refine st_val hS rfl rfl (by decide) (rv_move (hS.ev rfl)) fun a hS => ?_
          obtain ⟨_, hx, hF⟩ := bind_some hF
          have hi0 := nnO_some hx
          refine st_val hS rfl rfl (by decide) (rv_shl (hS.ev rfl) (hS.ev rfl) hi0) fun a hS => ?_
          refine st_val hS rfl rfl (by decide) (rv_add (hS.ev rfl) (hS.ev rfl)) fun a hS => ?_
          refine st_val hS rfl rfl (by decide) (rv_assign (hS.ev rfl)) fun a hS => ?_
          refine wpList_nil ?_
          cases hF
          exact hN3 _ _ _ rfl ⟨v415, (hS.sub (sub_cons rfl (sub_cons rfl (sub_cons rfl sub_nil)))), (hM.pick [2, 3, 0] (by decide) rfl)⟩
        refine wp_seq_k fun K416 hK416 => ?_
        refine wp_region_lit ?_
        refine st_val hS rfl rfl (by decide) (rv_assign (hS.ev rfl)) fun a hS => ?_
        refine wpList_nil ?_
        refine hK416 _ _ ?_
        refine wp_block ?_
        obtain ⟨lb5, hl5, hF5⟩ := bind_some hF
        refine wp_loop_sh (fun s => S_spec_CardinalityOrder_l5 F p0_g_Size p0_g_Rows x247 s.1 s.2.1 s.2.2) (fun s a w => Sl 70 [(2, (fdp b3 0)), (6, v245), (7, (Value.int IntKind.i64 x247)), (8, (Value.int IntKind.i64 s.1)), (9, (Value.int IntKind.i64 s.2.1)), (10, (Value.int IntKind.i64 s.2.2))] a ∧ Mem Nob w0 w [(true, bx b3 27 [(Value.int IntKind.i64 p0_g_Size), p0_g_Rowsv]), (false, rd p0_g_Rowsv (List.map (Value.int IntKind.i64) p0_g_Rows)), (true, ow 3 v245 (List.map (Value.int IntKind.i64) l246))]) hl5 ⟨(hS.sub (sub_cons rfl (sub_cons rfl (sub_cons rfl (sub_cons rfl (sub_cons rfl (sub_cons rfl sub_nil))))))), (hM.pick [0, 1, 2] (by decide) rfl)⟩ ?_
        rintro K5 ⟨x417, x418, x419⟩ a w res5 ⟨hS, hM⟩ hF hN5 hX5
        have hF : S_spec_CardinalityOrder_l5 F p0_g_Size p0_g_Rows x247 x417 x418 x419 = some res5 := hF
        have hS : Sl 70 [(2, (fdp b3 0)), (6, v245), (7, (Value.int IntKind.i64 x247)), (8, (Value.int IntKind.i64 x417)), (9, (Value.int IntKind.i64 x418)), (10, (Value.int IntKind.i64 x419))] a := hS
        have hM : Mem Nob w0 w [(true, bx b3 27 [(Value.int IntKind.i64 p0_g_Size), p0_g_Rowsv]), (false, rd p0_g_Rowsv (List.map (Value.int IntKind.i64) p0_g_Rows)), (true, ow 3 v245 (List.map (Value.int IntKind.i64) l246))] := hM
        unfold S_spec_CardinalityOrder_l5 at hF
        refine wp_seq_k fun K442 hK442 => ?_
        refine wp_seq_k fun K444 hK444 => ?_
        refine wp_region_lit ?_
        refine st_val hS rfl rfl (by decide) (rv_move (hS.ev rfl)) fun a hS => ?_
        refine st_val hS rfl rfl (by decide) (rv_fieldAddr ty_fd_27_0 (hS.ev rfl)) fun a hS => ?_
        refine st_val hS rfl rfl (by decide) (rv_load_bx (hS.ev rfl) ty_ag_3 (hM.get 0 rfl) rfl) fun a hS => ?_
        refine st_val hS rfl rfl (by decide) (rv_lss (hS.ev rfl) (hS.ev rfl)) fun a hS => ?_
        refine wpList_nil ?_
        refine hK444 _ _ ?_
        rcases ite_some hF with ⟨hc, hF⟩ | ⟨hc, hF⟩
        · refine cond_t hS rfl hc ?_
          refine wp_skip ?_
          refine hK442 _ _ ?_
          refine wp_seq_k fun K445 hK445 => ?_
          have hJ6 : ∀ (x454 : Int) (x455 : Int) (a : Act) (w : World), Sl 70 [(2, (fdp b3 0)), (6, v245), (7, (Value.int IntKind.i64 x247)), (8, (Value.int IntKind.i64 x454)), (9, (Value.int IntKind.i64 x455)), (10, (Value.int IntKind.i64 x419))] a → Mem Nob w0 w [(true, bx b3 27 [(Value.int IntKind.i64 p0_g_Size), p0_g_Rowsv]), (false, rd p0_g_Rowsv (List.map (Value.int IntKind.i64) p0_g_Rows)), (true, ow 3 v245 (List.map (Value.int IntKind.i64) l246))] → S_spec_CardinalityOrder_j6 F x419 x454 x455 = some res5 → K445 a w := by
            intro x454 x455 a w hS hM hF
            unfold S_spec_CardinalityOrder_j6 at hF
            refine hK445 _ _ ?_
            refine wp_region_lit ?_
            refine st_val hS rfl rfl (by decide) (rv_move (hS.ev rfl)) fun a hS => ?_
            refine st_val hS rfl rfl (by decide) (rv_add (hS.ev rfl) (hS.ev rfl)) fun a hS => ?_
            refine st_val hS rfl rfl (by decide) (rv_assign (hS.ev rfl)) fun a hS => ?_
            refine wpList_nil ?_
            cases hF
            exact hN5 _ _ _ rfl ⟨(hS.sub (sub_cons rfl (sub_cons rfl (sub_cons rfl (sub_cons rfl (sub_cons rfl (sub_cons rfl sub_nil))))))), (hM.pick [0, 1, 2] (by decide) rfl)⟩
          refine wp_block ?_
          refine wp_seq_k fun K456 hK456 => ?_
          refine wp_region_lit ?_
          refine st_val hS rfl rfl (by decide) (rv_fieldAddr ty_fd_27_1 (hS.ev rfl)) fun a hS => ?_
          refine st_val hS rfl rfl (by decide) (rv_load_bx (hS.ev rfl) ty_ag_22 (hM.get 0 rfl) rfl) fun a hS => ?_
          refine st_val hS rfl rfl (by decide) (rv_move (hS.ev rfl)) fun a hS => ?_
          obtain ⟨x459, hx, hF⟩ := bind_some hF
          obtain ⟨hi0, hi1, hex459⟩ := idxL_some hx
          refine st_val hS rfl rfl (by decide) (rv_indexAddr Try.underlying22 ty_el_3 (hS.ev rfl) (hS.ev rfl) (hM.get 1 rfl) hi0 (map_len hi1)) fun a hS => ?_
          refine st_val hS rfl rfl (by decide) (rv_load_el (hS.ev rfl) ty_ag_3 (hM.get 1 rfl) (mget hex459)) fun a hS => ?_
          refine st_val hS rfl rfl (by decide) (rv_move (hS.ev rfl)) fun a hS => ?_
          refine st_val hS rfl rfl (by decide) (rv_and (hS.ev rfl) (hS.ev rfl)) fun a hS => ?_
          obtain ⟨r460, hr, hF⟩ := bind_some hF
          refine st_wp hS rfl (wp_call hS rfl rfl (by decide) fn_ok_75 rfl (c_spec_CountSet F (bAnd x459 x247) hr _) fun v w a hK hS => ?_)
          obtain ⟨rfl, hN⟩ := hK
          have hM := hM.fra hN.fr
          refine st_val hS rfl rfl (by decide) (rv_assign (hS.ev rfl)) fun a hS => ?_
          refine wpList_nil ?_
          refine hK456 _ _ ?_
          refine wp_seq_k fun K461 hK461 => ?_
          have hJ7 : ∀ (p462 : Bool) (a : Act) (w : World), Sl 70 [(2, (fdp b3 0)), (6, v245), (7, (Value.int IntKind.i64 x247)), (8, (Value.int IntKind.i64 x417)), (9, (Value.int IntKind.i64 x418)), (10, (Value.int IntKind.i64 x419)), (11, (Value.int IntKind.i64 r460)), (58, (Value.bool p462))] a → Mem Nob w0 w [(true, bx b3 27 [(Value.int IntKind.i64 p0_g_Size), p0_g_Rowsv]), (false, rd p0_g_Rowsv (List.map (Value.int IntKind.i64) p0_g_Rows)), (true, ow 3 v245 (List.map (Value.int IntKind.i64) l246))] → S_spec_CardinalityOrder_j7 F x417 x418 x419 r460 p462 = some res5 → K461 a w := by
            intro p462 a w hS hM hF
            unfold S_spec_CardinalityOrder_j7 at hF
            refine hK461 _ _ ?_
            rcases ite_some hF with ⟨hc, hF⟩ | ⟨hc, hF⟩
            · refine cond_t hS rfl hc ?_
              refine wp_seq_k fun K463 hK463 => ?_
              refine wp_region_lit ?_
              refine st_val hS rfl rfl (by decide) (rv_move (hS.ev rfl)) fun a hS => ?_
              refine st_val hS rfl rfl (by decide) (rv_assign (hS.ev rfl)) fun a hS => ?_
              refine wpList_nil ?_
              refine hK463 _ _ ?_
              refine wp_region_lit ?_
              refine st_val hS rfl rfl (by decide) (rv_move (hS.ev rfl)) fun a hS => ?_
              refine st_val hS rfl rfl (by decide) (rv_assign (hS.ev rfl)) fun a hS => ?_
              refine wpList_nil ?_
              exact hJ6 x419 r460 _ _ (hS.sub (sub_cons rfl (sub_cons rfl (sub_cons rfl (sub_cons rfl (sub_cons rfl (sub_cons rfl sub_nil))))))) (hM.pick [0, 1, 2] (by decide) rfl) hF
            · refine cond_f hS rfl hc ?_
              refine wp_skip ?_
              exact hJ6 x417 x418 _ _ (hS.sub (sub_cons rfl (sub_cons rfl (sub_cons rfl (sub_cons rfl (sub_cons rfl (sub_cons rfl sub_nil))))))) (hM.pick [0, 1, 2] (by decide) rfl) hF
          refine wp_region_lit ?_
          refine st_val hS rfl rfl (by decide) (rv_move (hS.ev rfl)) fun a hS => ?_
          refine st_val hS rfl rfl (by decide) (rv_move (hS.ev rfl)) fun a hS => ?_
          obtain ⟨_, hx, hF⟩ := bind_some hF
          have hi0 := nnO_some hx
          refine st_val hS rfl rfl (by decide) (rv_shr (hS.ev rfl) (hS.ev rfl) hi0) fun a hS => ?_
          refine st_val hS rfl rfl (by decide) (rv_and (hS.ev rfl) (hS.ev rfl)) fun a hS => ?_
          refine st_val hS rfl rfl (by decide) (rv_eql (hS.ev rfl) (hS.ev rfl)) fun a hS => ?_
          refine st_val hS rfl rfl (by decide) (rv_move (hS.ev rfl)) fun a hS => ?_
          rcases ite_some hF with ⟨hc, hF⟩ | ⟨hc, hF⟩
          · have hS := hS.setb (t := 54) rfl hc
            refine st_val hS rfl rfl (by decide) (rv_move (hS.ev rfl)) fun a hS => ?_
            refine st_val hS rfl rfl (by decide) (rv_move (hS.ev rfl)) fun a hS => ?_
            refine st_val hS rfl rfl (by decide) (rv_gtr (hS.ev rfl) (hS.ev rfl)) fun a hS => ?_
            refine st_val hS rfl rfl (by decide) (rv_pick_t (hS.ev rfl) (hS.ev rfl)) fun a hS => ?_
            refine wpList_nil ?_
            exact hJ7 (decide (x418 < r460)) _ _ (hS.sub (sub_cons rfl (sub_cons rfl (sub_cons rfl (sub_cons rfl (sub_cons rfl (sub_cons rfl (sub_cons rfl (sub_cons rfl sub_nil))))))))) (hM.pick [0, 1, 2] (by decide) rfl) hF
          · have hS := hS.setb (t := 54) rfl hc
            refine st_skip hS rfl rfl (by decide) fun a hS => ?_
            refine st_skip hS rfl rfl (by decide) fun a hS => ?_
            refine st_skip hS rfl rfl (by decide) fun a hS => ?_
            refine st_val hS rfl rfl (by decide) (rv_pick_f (hS.ev rfl) (hS.ev rfl)) fun a hS => ?_
            refine wpList_nil ?_
            exact hJ7 false _ _ (hS.sub (sub_cons rfl (sub_cons rfl (sub_cons rfl (sub_cons rfl (sub_cons rfl (sub_cons rfl (sub_cons rfl (sub_cons rfl sub_nil))))))))) (hM.pick [0, 1, 2] (by decide) rfl) hF
        · refine cond_f hS rfl hc ?_
          refine wp_exit ?_
          cases hF
          exact hJ4 x417 _ _ (hS.sub (sub_cons rfl (sub_cons rfl (sub_cons rfl (sub_cons rfl sub_nil))))) (hM.pick [0, 1, 2] (by decide) rfl) (by have e := hX5 _ rfl; subst e; exact hF5)
      · refine cond_f hS rfl hc ?_
        refine wp_exit ?_
        cases hF
        exact hJ2 l246 v245 _ _ (hS.sub (sub_cons rfl sub_nil)) (hM.pick [2] (by decide) rfl) (by have e := hX3 _ rfl; subst e; exact hF3)
  refine wp_region_lit ?_
  refine st_val hS rfl rfl (by decide) (rv_load_agg (hS.ev rfl) ty_ag_27 (hM.get 0 rfl) ty_sz_27) fun a hS => ?_
  obtain ⟨r464, hr, hF⟩ := bind_some hF
  refine st_wp hS rfl (wp_call hS rfl rfl (by decide) fn_ok_52 rfl (c_spec_IsGraph F p0_g_Size p0_g_Rows p0_g_Rowsv hr _ (hM.get 1 rfl)) fun v w a hK hS => ?_)
  obtain ⟨rfl, hN⟩ := hK
  have hM := hM.fra hN.fr
  refine st_val hS rfl rfl (by decide) (rv_not (hS.ev rfl)) fun a hS => ?_
  refine st_val hS rfl rfl (by decide) (rv_move (hS.ev rfl)) fun a hS => ?_
  rcases ite_some hF with ⟨hc, hF⟩ | ⟨hc, hF⟩
  · have hS := hS.setb (t := 15) rfl hc
    refine st_skip hS rfl rfl (by decide) fun a hS => ?_
    refine st_skip hS rfl rfl (by decide) fun a hS => ?_
    refine st_val hS rfl rfl (by decide) (rv_pick_t (hS.ev rfl) (hS.ev rfl)) fun a hS => ?_
    refine st_val hS rfl rfl (by decide) (rv_move (hS.ev rfl)) fun a hS => ?_
    refine st_skip hS rfl rfl (by decide) fun a hS => ?_
    refine st_skip hS rfl rfl (by decide) fun a hS => ?_
    refine st_skip hS rfl rfl (by decide) fun a hS => ?_
    refine st_skip hS rfl rfl (by decide) fun a hS => ?_
    refine st_val hS rfl rfl (by decide) (rv_pick_t (hS.ev rfl) (hS.ev rfl)) fun a hS => ?_
    refine wpList_nil ?_
    exact hJ1 true _ _ (hS.sub (sub_cons rfl (sub_cons rfl (sub_cons rfl sub_nil)))) (hM.pick [0, 1] (by decide) rfl) hF
  · have hS := hS.setb (t := 15) rfl hc
    refine st_val hS rfl rfl (by decide) (rv_move (hS.ev rfl)) fun a hS => ?_
    refine st_val hS rfl rfl (by decide) (rv_lss (hS.ev rfl) (hS.ev rfl)) fun a hS => ?_
    refine st_val hS rfl rfl (by decide) (rv_pick_f (hS.ev rfl) (hS.ev rfl)) fun a hS => ?_
    refine st_val hS rfl rfl (by decide) (rv_move (hS.ev rfl)) fun a hS => ?_
    rcases ite_some hF with ⟨hc, hF⟩ | ⟨hc, hF⟩
    · have hS := hS.setb (t := 19) rfl hc
      refine st_skip hS rfl rfl (by decide) fun a hS => ?_
      refine st_skip hS rfl rfl (by decide) fun a hS => ?_
      refine st_skip hS rfl rfl (by decide) fun a hS => ?_
      refine st_skip hS rfl rfl (by decide) fun a hS => ?_
      refine st_val hS rfl rfl (by decide) (rv_pick_t (hS.ev rfl) (hS.ev rfl)) fun a hS => ?_
      refine wpList_nil ?_
      exact hJ1 true _ _ (hS.sub (sub_cons rfl (sub_cons rfl (sub_cons rfl sub_nil)))) (hM.pick [0, 1] (by decide) rfl) hF
    · have hS := hS.setb (t := 19) rfl hc
      refine st_val hS rfl rfl (by decide) (rv_move (hS.ev rfl)) fun a hS => ?_
      refine st_val hS rfl rfl (by decide) (rv_fieldAddr ty_fd_27_0 (hS.ev rfl)) fun a hS => ?_
      refine st_val hS rfl rfl (by decide) (rv_load_bx (hS.ev rfl) ty_ag_3 (hM.get 0 rfl) rfl) fun a hS => ?_
      refine st_val hS rfl rfl (by decide) (rv_geq (hS.ev rfl) (hS.ev rfl)) fun a hS => ?_
      refine st_val hS rfl rfl (by decide) (rv_pick_f (hS.ev rfl) (hS.ev rfl)) fun a hS => ?_
      refine wpList_nil ?_
      exact hJ1 (decide (p0_g_Size ≤ p1_start)) _ _ (hS.sub (sub_cons rfl (sub_cons rfl (sub_cons rfl sub_nil)))) (hM.pick [0, 1] (by decide) rfl) hF


theorem c_impl_SetOf (F : Nat) (p0_l : List Int) (p0_lv : Value) {r : Int × Bool} (hF : S_impl_SetOf F p0_l = some r) (w0 : World) (h0 : RdRow w0 p0_lv (List.map (Value.int IntKind.i64) p0_l)) :
    Calls Try.prog 77 [p0_lv].toArray w0 (retPost fun v w' => v = (Value.tuple #[(Value.int IntKind.i64 r.1), (Value.bool r.2)]) ∧ Mem Nob w0 w' []) := by
  have hM : Mem Nob w0 w0 [(false, rd p0_lv (List.map (Value.int IntKind.i64) p0_l))] := (Mem.rcons (Mem.nil w0) h0 (by simp))
  refine enter2 Try.func77 rfl rfl rfl fun Q a hQr hQn hQp hS => ?_
  have hS : Sl 27 [(0, p0_lv)] a := hS
  unfold S_impl_SetOf at hF
  refine wp_seq_k fun K1 hK1 => ?_
  refine wp_region_lit ?_
  refine st_val hS rfl rfl (by decide) (rv_assign (hS.ev rfl)) fun a hS => ?_
  refine st_val hS rfl rfl (by decide) (rv_assign (hS.ev rfl)) fun a hS => ?_
  refine wpList_nil ?_
  refine hK1 _ _ ?_
  refine wp_seq_k fun K2 hK2 => ?_
  refine wp_region_lit ?_
  refine st_val hS rfl rfl (by decide) (rv_assign (hS.ev rfl)) fun a hS => ?_
  refine wpList_nil ?_
  refine hK2 _ _ ?_
  refine wp_seq_k fun K3 hK3 => ?_
  have hJ1 : ∀ (x85 : Int) (a : Act) (w : World), Sl 27 [(4, (Value.int IntKind.i64 x85))] a → Mem Nob w0 w [] → S_impl_SetOf_j1 F x85 = some r → K3 a w := by
    intro x85 a w hS hM hF
    unfold S_impl_SetOf_j1 at hF
    refine hK3 _ _ ?_
    refine wp_seq_k fun K86 hK86 => ?_
    refine wp_region_lit ?_
    refine st_val hS rfl rfl (by decide) (rv_move (hS.ev rfl)) fun a hS => ?_
    refine st_val hS rfl rfl (by decide) (rv_assign (hS.ev rfl)) fun a hS => ?_
    refine st_val hS rfl rfl (by decide) (rv_assign (hS.ev rfl)) fun a hS => ?_
    refine wpList_nil ?_
    refine hK86 _ _ ?_
    refine wp_ret ?_
    cases hF
    exact hQr _ _ (r_2 hS rfl rfl rfl ⟨rfl, hM.pick [] (by decide) rfl⟩)
  refine wp_seq_k fun K87 hK87 => ?_
  refine wp_region_lit ?_
  refine st_val hS rfl rfl (by decide) (rv_move (hS.ev rfl)) fun a hS => ?_
  refine st_val hS rfl rfl (by decide) (rv_len_rowM Try.underlying22 (hS.ev rfl) (hM.get 0 rfl)) fun a hS => ?_
  refine st_val hS rfl rfl (by decide) (rv_move (hS.ev rfl)) fun a hS => ?_
  refine wpList_nil ?_
  refine hK87 _ _ ?_
  refine wp_block ?_
  obtain ⟨lb2, hl2, hF2⟩ := bind_some hF
  refine wp_loop_sh (fun s => S_impl_SetOf_l2 F p0_l s.1 s.2) (fun s a w => Sl 27 [(4, (Value.int IntKind.i64 s.1)), (7, p0_lv), (8, (Value.int IntKind.i64 (p0_l.length : Int))), (9, (Value.int IntKind.i64 s.2))] a ∧ Mem Nob w0 w [(false, rd p0_lv (List.map (Value.int IntKind.i64) p0_l))]) hl2 ⟨(hS.sub (sub_cons rfl (sub_cons rfl (sub_cons rfl (sub_cons rfl sub_nil))))), (hM.pick [0] (by decide) rfl)⟩ ?_
  rintro K2 ⟨x88, x89⟩ a w res2 ⟨hS, hM⟩ hF hN2 hX2
  have hF : S_impl_SetOf_l2 F p0_l x88 x89 = some res2 := hF
  have hS : Sl 27 [(4, (Value.int IntKind.i64 x88)), (7, p0_lv), (8, (Value.int IntKind.i64 (p0_l.length : Int))), (9, (Value.int IntKind.i64 x89))] a := hS
  have hM : Mem Nob w0 w [(false, rd p0_lv (List.map (Value.int IntKind.i64) p0_l))] := hM
  unfold S_impl_SetOf_l2 at hF
  refine wp_seq_k fun K129 hK129 => ?_
  refine wp_region_lit ?_
  refine st_val hS rfl rfl (by decide) (rv_lss (hS.ev rfl) (hS.ev rfl)) fun a hS => ?_
  refine wpList_nil ?_
  refine hK129 _ _ ?_
  refine wp_seq_k fun K130 hK130 => ?_
  rcases ite_some hF with ⟨hc, hF⟩ | ⟨hc, hF⟩
  · refine cond_t hS rfl hc ?_
    refine wp_skip ?_
    refine hK130 _ _ ?_
    refine wp_seq_k fun K131 hK131 => ?_
    refine wp_block ?_
    refine wp_seq_k fun K150 hK150 => ?_
    refine wp_region_lit ?_
    obtain ⟨x152, hx, hF⟩ := bind_some hF
    obtain ⟨hi0, hi1, hex152⟩ := idxL_some hx
    refine st_val hS rfl rfl (by decide) (rv_indexAddr Try.underlying22 ty_el_3 (hS.ev rfl) (hS.ev rfl) (hM.get 0 rfl) hi0 (map_len hi1)) fun a hS => ?_
    refine st_val hS rfl rfl (by decide) (rv_load_el (hS.ev rfl) ty_ag_3 (hM.get 0 rfl) (mget hex152)) fun a hS => ?_
    refine st_val hS rfl rfl (by decide) (rv_assign (hS.ev rfl)) fun a hS => ?_
    refine wpList_nil ?_
    refine hK150 _ _ ?_
    refine wp_seq_k fun K153 hK153 => ?_
    refine wp_seq_k fun K161 hK161 => ?_
    have hJ3 : ∀ (p164 : Bool) (a : Act) (w : World), Sl 27 [(4, (Value.int IntKind.i64 x88)), (6, (Value.int IntKind.i64 x152)), (7, p0_lv), (8, (Value.int IntKind.i64 (p0_l.length : Int))), (9, (Value.int IntKind.i64 x89)), (20, (Value.bool p164))] a → Mem Nob w0 w [(false, rd p0_lv (List.map (Value.int IntKind.i64) p0_l))] → S_impl_SetOf_j3 F x88 x89 x152 p164 = some res2 → K161 a w := by
      intro p164 a w hS hM hF
      unfold S_impl_SetOf_j3 at hF
      refine hK161 _ _ ?_
      rcases ite_some hF with ⟨hc, hF⟩ | ⟨hc, hF⟩
      · refine cond_t hS rfl hc ?_
        refine wp_seq_k fun K165 hK165 => ?_
        refine wp_region_lit ?_
        refine st_val hS rfl rfl (by decide) (rv_assign (hS.ev rfl)) fun a hS => ?_
        refine st_val hS rfl rfl (by decide) (rv_assign (hS.ev rfl)) fun a hS => ?_
        refine wpList_nil ?_
        refine hK165 _ _ ?_
        refine wp_ret ?_
        cases hF
        have e := hX2 _ rfl
        subst e
        have hF := hF2
        cases hF
        exact hQr _ _ (r_2 hS rfl rfl rfl ⟨rfl, hM.pick [] (by decide) rfl⟩)
      · refine cond_f hS rfl hc ?_
        refine wp_skip ?_
        refine hK153 _ _ ?_
        refine wp_region_lit ?_
        refine st_val hS rfl rfl (by decide) (rv_move (hS.ev rfl)) fun a hS => ?_
        refine st_val hS rfl rfl (by decide) (rv_move (hS.ev rfl)) fun a hS => ?_
        obtain ⟨_, hx, hF⟩ := bind_some hF
        have hi0 := nnO_some hx
        refine st_val hS rfl rfl (by decide) (rv_shl (hS.ev rfl) (hS.ev rfl) hi0) fun a hS => ?_
        refine st_val hS rfl rfl (by decide) (rv_or (hS.ev rfl) (hS.ev rfl)) fun a hS => ?_
        refine st_val hS rfl rfl (by decide) (rv_assign (hS.ev rfl)) fun a hS => ?_
        refine wpList_nil ?_
        refine hK131 _ _ ?_
        refine wp_region_lit ?_
        refine st_val hS rfl rfl (by decide) (rv_add (hS.ev rfl) (hS.ev rfl)) fun a hS => ?_
        refine st_val hS rfl rfl (by decide) (rv_move (hS.ev rfl)) fun a hS => ?_
        refine wpList_nil ?_
        cases hF
        exact hN2 _ _ _ rfl ⟨(hS.sub (sub_cons rfl (sub_cons rfl (sub_cons rfl (sub_cons rfl sub_nil))))), (hM.pick [0] (by decide) rfl)⟩
    refine wp_region_lit ?_
    refine st_val hS rfl rfl (by decide) (rv_move (hS.ev rfl)) fun a hS => ?_
    obtain ⟨r166, hr, hF⟩ := bind_some hF
    refine st_wp hS rfl (wp_call hS rfl rfl (by decide) fn_ok_90 rfl (c_impl_within F x152 0 6 hr _) fun v w a hK hS => ?_)
    obtain ⟨rfl, hN⟩ := hK
    have hM := hM.fra hN.fr
    refine st_val hS rfl rfl (by decide) (rv_not (hS.ev rfl)) fun a hS => ?_
    refine st_val hS rfl rfl (by decide) (rv_move (hS.ev rfl)) fun a hS => ?_
    rcases ite_some hF with ⟨hc, hF⟩ | ⟨hc, hF⟩
    · have hS := hS.setb (t := 16) rfl hc
      refine st_skip hS rfl rfl (by decide) fun a hS => ?_
      refine st_skip hS rfl rfl (by decide) fun a hS => ?_
      refine st_skip hS rfl rfl (by decide) fun a hS => ?_
      refine st_val hS rfl rfl (by decide) (rv_pick_t (hS.ev rfl) (hS.ev rfl)) fun a hS => ?_
      refine wpList_nil ?_
      exact hJ3 true _ _ (hS.sub (sub_cons rfl (sub_cons rfl (sub_cons rfl (sub_cons rfl (sub_cons rfl (sub_cons rfl sub_nil))))))) (hM.pick [0] (by decide) rfl) hF
    · have hS := hS.setb (t := 16) rfl hc
      refine st_val hS rfl rfl (by decide) (rv_move (hS.ev rfl)) fun a hS => ?_
      refine st_val hS rfl rfl (by decide) (rv_move (hS.ev rfl)) fun a hS => ?_
      obtain ⟨r167, hr, hF⟩ := bind_some hF
      refine st_wp hS rfl (wp_call hS rfl rfl (by decide) fn_ok_88 rfl (c_impl_has F x88 x152 hr _) fun v w a hK hS => ?_)
      obtain ⟨rfl, hN⟩ := hK
      have hM := hM.fra hN.fr
      refine st_val hS rfl rfl (by decide) (rv_pick_f (hS.ev rfl) (hS.ev rfl)) fun a hS => ?_
      refine wpList_nil ?_
      exact hJ3 r167 _ _ (hS.sub (sub_cons rfl (sub_cons rfl (sub_cons rfl (sub_cons rfl (sub_cons rfl (sub_cons rfl sub_nil))))))) (hM.pick [0] (by decide) rfl) hF
  · refine cond_f hS rfl hc ?_
    refine wp_exit ?_
    cases hF
    exact hJ1 x88 _ _ (hS.sub (sub_cons rfl sub_nil)) (hM.pick [] (by decide) rfl) (by have e := hX2 _ rfl; subst e; exact hF2)


theorem c_impl_CountSet (F : Nat) (p0_set : Int) {r : Int} (hF : S_impl_CountSet F p0_set = some r) (w0 : World) :
    Calls Try.prog 78 [(Value.int IntKind.i64 p0_set)].toArray w0 (retPost fun v w' => v = (Value.int IntKind.i64 r) ∧ Mem Nob w0 w' []) := by
  have hM : Mem Nob w0 w0 [] := (Mem.nil w0)
  refine enter2 Try.func78 rfl rfl rfl fun Q a hQr hQn hQp hS => ?_
  have hS : Sl 6 [(0, (Value.int IntKind.i64 p0_set))] a := hS
  unfold S_impl_CountSet at hF
  refine wp_seq_k fun K1 hK1 => ?_
  refine wp_region_lit ?_
  refine st_val hS rfl rfl (by decide) (rv_assign (hS.ev rfl)) fun a hS => ?_
  refine wpList_nil ?_
  refine hK1 _ _ ?_
  refine wp_seq_k fun K2 hK2 => ?_
  refine wp_region_lit ?_
  refine st_val hS rfl rfl (by decide) (rv_move (hS.ev rfl)) fun a hS => ?_
  obtain ⟨r5, hr, hF⟩ := bind_some hF
  refine st_wp hS rfl (wp_call hS rfl rfl (by decide) fn_ok_64 rfl (c_impl_ListOf F p0_set hr _) fun v6 w a hK hS => ?_)
  have hN := hK
  have hM := hM.add hN rfl
  refine st_val hS rfl rfl (by decide) (rv_len_rowM Try.underlying22 (hS.ev rfl) (rd_of_ow (hM.get 0 rfl))) fun a hS => ?_
  refine st_val hS rfl rfl (by decide) (rv_assign (hS.ev rfl)) fun a hS => ?_
  refine wpList_nil ?_
  refine hK2 _ _ ?_
  refine wp_ret ?_
  cases hF
  exact hQr _ _ (r_1 hS rfl rfl ⟨rfl, hM.pick [] (by decide) rfl⟩)


theorem c_impl_CardinalityOrder_c1 (F : Nat) (p0_v : Int) (p1_order : List Int) (q0_Size : Int) (q0_Rows : List Int) (p1_orderv : Value) (q0_Rowsv : Value) (q0b : Nat) {r : Int} (hF : S_impl_CardinalityOrder_c1 F p0_v p1_order q0_Size q0_Rows = some r) (w0 : World) (h0 : RdRow w0 p1_orderv (List.map (Value.int IntKind.i64) p1_order)) (h1 : RdRow w0 q0_Rowsv (List.map (Value.int IntKind.i64) q0_Rows)) (h2 : (bx q0b 27 [(Value.int IntKind.i64 q0_Size), q0_Rowsv]).P w0) :
    Calls Try.prog 76 [(Value.int IntKind.i64 p0_v), p1_orderv, (fdp q0b 0)].toArray w0 (retPost fun v w' => v = (Value.int IntKind.i64 r) ∧ Mem Nob w0 w' []) := by
  have hM : Mem Nob w0 w0 [(false, rd p1_orderv (List.map (Value.int IntKind.i64) p1_order)), (false, rd q0_Rowsv (List.map (Value.int IntKind.i64) q0_Rows)), (false, bx q0b 27 [(Value.int IntKind.i64 q0_Size), q0_Rowsv])] := (Mem.rcons (Mem.rcons (Mem.gcons (Mem.nil w0) h2 (by simp)) h1 (by simp)) h0 (by simp))
  refine enter2 Try.func76 rfl rfl rfl fun Q a hQr hQn hQp hS => ?_
  have hS : Sl 21 [(0, (Value.int IntKind.i64 p0_v)), (1, p1_orderv), (2, (fdp q0b 0))] a := hS
  unfold S_impl_CardinalityOrder_c1 at hF
  refine wp_seq_k fun K1 hK1 => ?_
  refine wp_region_lit ?_
  refine st_val hS rfl rfl (by decide) (rv_assign (hS.ev rfl)) fun a hS => ?_
  refine wpList_nil ?_
  refine hK1 _ _ ?_
  refine wp_seq_k fun K2 hK2 => ?_
  refine wp_region_lit ?_
  refine st_val hS rfl rfl (by decide) (rv_move (hS.ev rfl)) fun a hS => ?_
  obtain ⟨r4, hr, hF⟩ := bind_some hF
  refine st_wp hS rfl (wp_call hS rfl rfl (by decide) fn_ok_77 rfl (c_impl_SetOf F p1_order p1_orderv hr _ (hM.get 0 rfl)) fun v w a hK hS => ?_)
  obtain ⟨rfl, hN⟩ := hK
  have hM := hM.fra hN.fr
  refine st_val hS rfl rfl (by decide) (rv_move (hS.ev rfl)) fun a hS => ?_
  refine st_val hS rfl rfl (by decide) (rv_extract (hS.ev rfl) rfl) fun a hS => ?_
  refine st_val hS rfl rfl (by decide) (rv_extract (hS.ev rfl) rfl) fun a hS => ?_
  refine st_val hS rfl rfl (by decide) (rv_assign (hS.ev rfl)) fun a hS => ?_
  refine st_val hS rfl rfl (by decide) (rv_assign (hS.ev rfl)) fun a hS => ?_
  refine wpList_nil ?_
  refine hK2 _ _ ?_
  refine wp_seq_k fun K5 hK5 => ?_
  refine wp_region_lit ?_
  refine st_val hS rfl rfl (by decide) (rv_fieldAddr ty_fd_27_1 (hS.ev rfl)) fun a hS => ?_
  refine st_val hS rfl rfl (by decide) (rv_load_bx (hS.ev rfl) ty_ag_22 (hM.get 2 rfl) rfl) fun a hS => ?_
  refine st_val hS rfl rfl (by decide) (rv_move (hS.ev rfl)) fun a hS => ?_
  obtain ⟨x8, hx, hF⟩ := bind_some hF
  obtain ⟨hi0, hi1, hex8⟩ := idxL_some hx
  refine st_val hS rfl rfl (by decide) (rv_indexAddr Try.underlying22 ty_el_3 (hS.ev rfl) (hS.ev rfl) (hM.get 1 rfl) hi0 (map_len hi1)) fun a hS => ?_
  refine st_val hS rfl rfl (by decide) (rv_load_el (hS.ev rfl) ty_ag_3 (hM.get 1 rfl) (mget hex8)) fun a hS => ?_
  refine st_val hS rfl rfl (by decide) (rv_move (hS.ev rfl)) fun a hS => ?_
  refine st_val hS rfl rfl (by decide) (rv_and (hS.ev rfl) (hS.ev rfl)) fun a hS => ?_
  obtain ⟨r9, hr, hF⟩ := bind_some hF
  refine st_wp hS rfl (wp_call hS rfl rfl (by decide) fn_ok_78 rfl (c_impl_CountSet F (bAnd x8 r4.1) hr _) fun v w a hK hS => ?_)
  obtain ⟨rfl, hN⟩ := hK
  have hM := hM.fra hN.fr
  refine st_val hS rfl rfl (by decide) (rv_assign (hS.ev rfl)) fun a hS => ?_
  refine wpList_nil ?_
  refine hK5 _ _ ?_
  refine wp_ret ?_
  cases hF
  exact hQr _ _ (r_1 hS rfl rfl ⟨rfl, hM.pick [] (by decide) rfl⟩)


theorem c_impl_greedyOrder__CardinalityOrderc1 (F : Nat) (p0_g_Size : Int) (p0_g_Rows : List Int) (p1_start : Int) (p2_number_c0_Size : Int) (p2_number_c0_Rows : List Int) (p0_g_Rowsv : Value) (p2_number_c0_Rowsv : Value) (p2_number_c0b : Nat) {r : (List (Int)) × Bool} (hF : S_impl_greedyOrder__CardinalityOrderc1 F p0_g_Size p0_g_Rows p1_start p2_number_c0_Size p2_number_c0_Rows = some r) (w0 : World) (h0 : RdRow w0 p0_g_Rowsv (List.map (Value.int IntKind.i64) p0_g_Rows)) (h1 : RdRow w0 p2_number_c0_Rowsv (List.map (Value.int IntKind.i64) p2_number_c0_Rows)) (h2 : (bx p2_number_c0b 27 [(Value.int IntKind.i64 p2_number_c0_Size), p2_number_c0_Rowsv]).P w0) :
    Calls Try.prog 70 [(Value.agg #[(Value.int IntKind.i64 p0_g_Size), p0_g_Rowsv]), (Value.int IntKind.i64 p1_start), (Value.func (Fn.func 76) #[] #[(fdp p2_number_c0b 0)])].toArray w0 (retPost fun v w' => ∃ v428, v = (Value.tuple #[v428, (Value.bool r.2)]) ∧ Mem Nob w0 w' [(true, ow 3 v428 (List.map (Value.int IntKind.i64) r.1))]) := by
  have hM : Mem Nob w0 w0 [(false, rd p0_g_Rowsv (List.map (Value.int IntKind.i64) p0_g_Rows)), (false, rd p2_number_c0_Rowsv (List.map (Value.int IntKind.i64) p2_number_c0_Rows)), (false, bx p2_number_c0b 27 [(Value.int IntKind.i64 p2_number_c0_Size), p2_number_c0_Rowsv])] := (Mem.rcons (Mem.rcons (Mem.gcons (Mem.nil w0) h2 (by simp)) h1 (by simp)) h0 (by simp))
  refine enter2 Try.func70 rfl rfl rfl fun Q a hQr hQn hQp hS => ?_
  have hS : Sl 51 [(0, (Value.agg #[(Value.int IntKind.i64 p0_g_Size), p0_g_Rowsv])), (1, (Value.int IntKind.i64 p1_start)), (2, (Value.func (Fn.func 76) #[] #[(fdp p2_number_c0b 0)]))] a := hS
  unfold S_impl_greedyOrder__CardinalityOrderc1 at hF
  refine wp_seq_k fun K1 hK1 => ?_
  refine wp_region_lit ?_
  obtain ⟨b3, w, hr, hM⟩ := hM.boxE (ρ := a.eval) (dst := some 3) (ty := _) (pos := _) (af := _) (gd := _) (x := .tmp 0) (T := 27) [(Value.int IntKind.i64 p0_g_Size), p0_g_Rowsv] (hS.ev rfl) rfl
  refine st_val hS rfl rfl (by decide) hr fun a hS => ?_
  refine st_val hS rfl rfl (by decide) (rv_assign (hS.ev rfl)) fun a hS => ?_
  refine st_val hS rfl rfl (by decide) (rv_assign (hS.ev rfl)) fun a hS => ?_
  refine wpList_nil ?_
  refine hK1 _ _ ?_
  refine wp_seq_k fun K4 hK4 => ?_
  refine wp_seq_k fun K11 hK11 => ?_
  refine wp_region_lit ?_
  refine st_val hS rfl rfl (by decide) (rv_load_agg (hS.ev rfl) ty_ag_27 (hM.get 0 rfl) ty_sz_27) fun a hS => ?_
  refine st_val hS rfl rfl (by decide) (rv_move (hS.ev rfl)) fun a hS => ?_
  obtain ⟨v14, w, hr, hM⟩ := Mem.litE (f := (Value.int IntKind.i64)) (dst := some 15) (ty := _) (pos := _) (af := _) (gd := _) (ps := [(0, .tmp 14)]) ([p1_start] : List (Int)) i64_one hM hS Try.underlying22 ty_el_3 rfl rfl rfl rfl
  refine st_val hS rfl rfl (by decide) hr fun a hS => ?_
  obtain ⟨r15, hr, hF⟩ := bind_some hF
  refine st_wp hS rfl (wp_call hS rfl rfl (by decide) fn_ok_63 rfl (c_impl_isVertex F p0_g_Size p0_g_Rows ([p1_start] : List (Int)) p0_g_Rowsv v14 hr _ (hM.get 2 rfl) (rd_of_ow (hM.get 0 rfl))) fun v w a hK hS => ?_)
  obtain ⟨rfl, hN⟩ := hK
  have hM := hM.fra hN.fr
  refine st_val hS rfl rfl (by decide) (rv_not (hS.ev rfl)) fun a hS => ?_
  refine wpList_nil ?_
  refine hK11 _ _ ?_
  rcases ite_some hF with ⟨hc, hF⟩ | ⟨hc, hF⟩
  · refine cond_t hS rfl hc ?_
    refine wp_seq_k fun K16 hK16 => ?_
    refine wp_region_lit ?_
    refine st_val hS rfl rfl (by decide) (rv_assign (hS.ev rfl)) fun a hS => ?_
    refine st_val hS rfl rfl (by decide) (rv_assign (hS.ev rfl)) fun a hS => ?_
    refine wpList_nil ?_
    refine hK16 _ _ ?_
    refine wp_ret ?_
    cases hF
    have hM := hM.addNil 3
    exact hQr _ _ (r_2 hS rfl rfl rfl ⟨(Value.slice none 0 0), rfl, hM.pick [0] (by decide) rfl⟩)
  · refine cond_f hS rfl hc ?_
    refine wp_skip ?_
    refine hK4 _ _ ?_
    refine wp_seq_k fun K17 hK17 => ?_
    refine wp_region_lit ?_
    refine st_val hS rfl rfl (by decide) (rv_move (hS.ev rfl)) fun a hS => ?_
    obtain ⟨v19, w, hr, hM⟩ := Mem.litE (f := (Value.int IntKind.i64)) (dst := some 19) (ty := _) (pos := _) (af := _) (gd := _) (ps := [(0, .tmp 18)]) ([p1_start] : List (Int)) i64_one hM hS Try.underlying22 ty_el_3 rfl rfl rfl rfl
    refine st_val hS rfl rfl (by decide) hr fun a hS => ?_
    refine st_val hS rfl rfl (by decide) (rv_assign (hS.ev rfl)) fun a hS => ?_
    refine wpList_nil ?_
    refine hK17 _ _ ?_
    refine wp_seq_k fun K20 hK20 => ?_
    have hJ1 : ∀ (l224 : List Int) (v223 : Value) (a : Act) (w : World), Sl 51 [(8, v223)] a → Mem Nob w0 w [(true, ow 3 v223 (List.map (Value.int IntKind.i64) l224))] → S_impl_greedyOrder__CardinalityOrderc1_j1 F l224 = some r → K20 a w := by
      intro l224 v223 a w hS hM hF
      unfold S_impl_greedyOrder__CardinalityOrderc1_j1 at hF
      refine hK20 _ _ ?_
      refine wp_seq_k fun K225 hK225 => ?_
      refine wp_region_lit ?_
      refine st_val hS rfl rfl (by decide) (rv_move (hS.ev rfl)) fun a hS => ?_
      refine st_val hS rfl rfl (by decide) (rv_assign (hS.ev rfl)) fun a hS => ?_
      refine st_val hS rfl rfl (by decide) (rv_assign (hS.ev rfl)) fun a hS => ?_
      refine wpList_nil ?_
      refine hK225 _ _ ?_
      refine wp_ret ?_
      cases hF
      exact hQr _ _ (r_2 hS rfl rfl rfl ⟨v223, rfl, hM.pick [0] (by decide) rfl⟩)
    refine wp_block ?_
    obtain ⟨lb2, hl2, hF2⟩ := bind_some hF
    refine wp_loop_sh (fun s => S_impl_greedyOrder__CardinalityOrderc1_l2 F p0_g_Size p2_number_c0_Size p2_number_c0_Rows s) (fun s a w => ∃ (v226 : Value), Sl 51 [(2, (Value.func (Fn.func 76) #[] #[(fdp p2_number_c0b 0)])), (3, (fdp b3 0)), (8, v226)] a ∧ Mem Nob w0 w [(false, bx p2_number_c0b 27 [(Value.int IntKind.i64 p2_number_c0_Size), p2_number_c0_Rowsv]), (false, rd p2_number_c0_Rowsv (List.map (Value.int IntKind.i64) p2_number_c0_Rows)), (true, bx b3 27 [(Value.int IntKind.i64 p0_g_Size), p0_g_Rowsv]), (false, rd p0_g_Rowsv (List.map (Value.int IntKind.i64) p0_g_Rows)), (true, ow 3 v226 (List.map (Value.int IntKind.i64) s))]) hl2 ⟨v19, (hS.sub (sub_cons rfl (sub_cons rfl (sub_cons rfl sub_nil)))), (hM.pick [5, 4, 2, 3, 0] (by decide) rfl)⟩ ?_
    rintro K2 l227 a w res2 ⟨v226, hS, hM⟩ hF hN2 hX2
    have hF : S_impl_greedyOrder__CardinalityOrderc1_l2 F p0_g_Size p2_number_c0_Size p2_number_c0_Rows l227 = some res2 := hF
    have hS : Sl 51 [(2, (Value.func (Fn.func 76) #[] #[(fdp p2_number_c0b 0)])), (3, (fdp b3 0)), (8, v226)] a := hS
    have hM : Mem Nob w0 w [(false, bx p2_number_c0b 27 [(Value.int IntKind.i64 p2_number_c0_Size), p2_number_c0_Rowsv]), (false, rd p2_number_c0_Rowsv (List.map (Value.int IntKind.i64) p2_number_c0_Rows)), (true, bx b3 27 [(Value.int IntKind.i64 p0_g_Size), p0_g_Rowsv]), (false, rd p0_g_Rowsv (List.map (Value.int IntKind.i64) p0_g_Rows)), (true, ow 3 v226 (List.map (Value.int IntKind.i64) l227))] := hM
    unfold S_impl_greedyOrder__CardinalityOrderc1_l2 at hF
    refine wp_seq_k fun K328 hK328 => ?_
    refine wp_seq_k fun K330 hK330 => ?_
    refine wp_region_lit ?_
    refine st_val hS rfl rfl (by decide) (rv_move (hS.ev rfl)) fun a hS => ?_
    refine st_val hS rfl rfl (by decide) (rv_len_rowM Try.underlying22 (hS.ev rfl) (rd_of_ow (hM.get 4 rfl))) fun a hS => ?_
    refine st_val hS rfl rfl (by decide) (rv_fieldAddr ty_fd_27_0 (hS.ev rfl)) fun a hS => ?_
    refine st_val hS rfl rfl (by decide) (rv_load_bx (hS.ev rfl) ty_ag_3 (hM.get 2 rfl) rfl) fun a hS => ?_
    refine st_val hS rfl rfl (by decide) (rv_lss (hS.ev rfl) (hS.ev rfl)) fun a hS => ?_
    refine wpList_nil ?_
    refine hK330 _ _ ?_
    rcases ite_some hF with ⟨hc, hF⟩ | ⟨hc, hF⟩
    · refine cond_t hS rfl hc ?_
      refine wp_skip ?_
      refine hK328 _ _ ?_
      refine wp_block ?_
      refine wp_seq_k fun K331 hK331 => ?_
      refine wp_region_lit ?_
      refine st_val hS rfl rfl (by decide) (rv_assign (hS.ev rfl)) fun a hS => ?_
      refine st_val hS rfl rfl (by decide) (rv_assign (hS.ev rfl)) fun a hS => ?_
      refine wpList_nil ?_
      refine hK331 _ _ ?_
      refine wp_seq_k fun K332 hK332 => ?_
      have hJ3 : ∀ (x379 : Int) (a : Act) (w : World), Sl 51 [(2, (Value.func (Fn.func 76) #[] #[(fdp p2_number_c0b 0)])), (3, (fdp b3 0)), (8, v226), (9, (Value.int IntKind.i64 x379))] a → Mem Nob w0 w [(false, bx p2_number_c0b 27 [(Value.int IntKind.i64 p2_number_c0_Size), p2_number_c0_Rowsv]), (false, rd p2_number_c0_Rowsv (List.map (Value.int IntKind.i64) p2_number_c0_Rows)), (true, bx b3 27 [(Value.int IntKind.i64 p0_g_Size), p0_g_Rowsv]), (false, rd p0_g_Rowsv (List.map (Value.int IntKind.i64) p0_g_Rows)), (true, ow 3 v226 (List.map (Value.int IntKind.i64) l227))] → S_impl_greedyOrder__CardinalityOrderc1_j3 F l227 x379 = some res2 → K332 a w := by
        intro x379 a w hS hM hF
        unfold S_impl_greedyOrder__CardinalityOrderc1_j3 at hF
        refine hK332 _ _ ?_
        refine wp_region_lit ?_
        refine st_val hS rfl rfl (by decide) (rv_move (hS.ev rfl)) fun a hS => ?_
        refine st_val hS rfl rfl (by decide) (rv_move (hS.ev rfl)) fun a hS => ?_
        obtain ⟨v380, w, hr, hM⟩ := Mem.litE (f := (Value.int IntKind.i64)) (dst := some 48) (ty := _) (pos := _) (af := _) (gd := _) (ps := [(0, .tmp 47)]) ([x379] : List (Int)) i64_one hM hS Try.underlying22 ty_el_3 rfl rfl rfl rfl
        refine st_val hS rfl rfl (by decide) hr fun a hS => ?_
        obtain ⟨_, hx, hF⟩ := bind_some hF
        have hM := hM.pick [5, 0, 1, 2, 3, 4] (by decide) rfl
        obtain ⟨v381, w, hr, hM⟩ := Mem.appE (f := (Value.int IntKind.i64)) (S := _) (R := [(true, ow 3 v380 (List.map (Value.int IntKind.i64) ([x379] : List (Int)))), (false, bx p2_number_c0b 27 [(Value.int IntKind.i64 p2_number_c0_Size), p2_number_c0_Rowsv]), (false, rd p2_number_c0_Rowsv (List.map (Value.int IntKind.i64) p2_number_c0_Rows)), (true, bx b3 27 [(Value.int IntKind.i64 p0_g_Size), p0_g_Rowsv]), (false, rd p0_g_Rowsv (List.map (Value.int IntKind.i64) p0_g_Rows))]) (ρ := a.eval) (dst := some 49) (ty := _) (pos := _) (af := _) (gd := _) (x := .tmp 46) (y := .tmp 48) i64_one hM Try.underlying22 ty_el_3 rfl (by decide) (hS.ev rfl) (hS.ev rfl) (rd_of_ow (hM.get 1 rfl)) (catO_some hx)
        refine st_val hS rfl rfl (by decide) hr fun a hS => ?_
        refine st_val hS rfl rfl (by decide) (rv_assign (hS.ev rfl)) fun a hS => ?_
        refine wpList_nil ?_
        cases hF
        exact hN2 _ _ _ rfl ⟨v381, (hS.sub (sub_cons rfl (sub_cons rfl (sub_cons rfl sub_nil)))), (hM.pick [2, 3, 4, 5, 0] (by decide) rfl)⟩
      refine wp_seq_k fun K382 hK382 => ?_
      refine wp_region_lit ?_
      refine st_val hS rfl rfl (by decide) (rv_fieldAddr ty_fd_27_0 (hS.ev rfl)) fun a hS => ?_
      refine st_val hS rfl rfl (by decide) (rv_load_bx (hS.ev rfl) ty_ag_3 (hM.get 2 rfl) rfl) fun a hS => ?_
      refine st_val hS rfl rfl (by decide) (rv_move (hS.ev rfl)) fun a hS => ?_
      refine wpList_nil ?_
      refine hK382 _ _ ?_
      refine wp_block ?_
      obtain ⟨lb4, hl4, hF4⟩ := bind_some hF
      refine wp_loop_sh (fun s => S_impl_greedyOrder__CardinalityOrderc1_l4 F p0_g_Size p2_number_c0_Size p2_number_c0_Rows l227 s.1 s.2.1 s.2.2) (fun s a w => Sl 51 [(2, (Value.func (Fn.func 76) #[] #[(fdp p2_number_c0b 0)])), (3, (fdp b3 0)), (8, v226), (9, (Value.int IntKind.i64 s.1)), (10, (Value.int IntKind.i64 s.2.1)), (26, (Value.int IntKind.i64 p0_g_Size)), (27, (Value.int IntKind.i64 s.2.2))] a ∧ Mem Nob w0 w [(false, bx p2_number_c0b 27 [(Value.int IntKind.i64 p2_number_c0_Size), p2_number_c0_Rowsv]), (false, rd p2_number_c0_Rowsv (List.map (Value.int IntKind.i64) p2_number_c0_Rows)), (true, bx b3 27 [(Value.int IntKind.i64 p0_g_Size), p0_g_Rowsv]), (false, rd p0_g_Rowsv (List.map (Value.int IntKind.i64) p0_g_Rows)), (true, ow 3 v226 (List.map (Value.int IntKind.i64) l227))]) hl4 ⟨(hS.sub (sub_cons rfl (sub_cons rfl (sub_cons rfl (sub_cons rfl (sub_cons rfl (sub_cons rfl (sub_cons rfl sub_nil)))))))), (hM.pick [0, 1, 2, 3, 4] (by decide) rfl)⟩ ?_
      rintro K4 ⟨x383, x384, x385⟩ a w res4 ⟨hS, hM⟩ hF hN4 hX4
      have hF : S_impl_greedyOrder__CardinalityOrderc1_l4 F p0_g_Size p2_number_c0_Size p2_number_c0_Rows l227 x383 x384 x385 = some res4 := hF
      have hS : Sl 51 [(2, (Value.func (Fn.func 76) #[] #[(fdp p2_number_c0b 0)])), (3, (fdp b3 0)), (8, v226), (9, (Value.int IntKind.i64 x383)), (10, (Value.int IntKind.i64 x384)), (26, (Value.int IntKind.i64 p0_g_Size)), (27, (Value.int IntKind.i64 x385))] a := hS
      have hM : Mem Nob w0 w [(false, bx p2_number_c0b 27 [(Value.int IntKind.i64 p2_number_c0_Size), p2_number_c0_Rowsv]), (false, rd p2_number_c0_Rowsv (List.map (Value.int IntKind.i64) p2_number_c0_Rows)), (true, bx b3 27 [(Value.int IntKind.i64 p0_g_Size), p0_g_Rowsv]), (false, rd p0_g_Rowsv (List.map (Value.int IntKind.i64) p0_g_Rows)), (true, ow 3 v226 (List.map (Value.int IntKind.i64) l227))] := hM
      unfold S_impl_greedyOrder__CardinalityOrderc1_l4 at hF
      refine wp_seq_k fun K407 hK407 => ?_
      refine wp_region_lit ?_
      refine st_val hS rfl rfl (by decide) (rv_lss (hS.ev rfl) (hS.ev rfl)) fun a hS => ?_
      refine wpList_nil ?_
      refine hK407 _ _ ?_
      refine wp_seq_k fun K408 hK408 => ?_
      rcases ite_some hF with ⟨hc, hF⟩ | ⟨hc, hF⟩
      · refine cond_t hS rfl hc ?_
        refine wp_skip ?_
        refine hK408 _ _ ?_
        refine wp_seq_k fun K409 hK409 => ?_
        have hJ5 : ∀ (x418 : Int) (x419 : Int) (a : Act) (w : World), Sl 51 [(2, (Value.func (Fn.func 76) #[] #[(fdp p2_number_c0b 0)])), (3, (fdp b3 0)), (8, v226), (9, (Value.int IntKind.i64 x418)), (10, (Value.int IntKind.i64 x419)), (26, (Value.int IntKind.i64 p0_g_Size)), (27, (Value.int IntKind.i64 x385))] a → Mem Nob w0 w [(false, bx p2_number_c0b 27 [(Value.int IntKind.i64 p2_number_c0_Size), p2_number_c0_Rowsv]), (false, rd p2_number_c0_Rowsv (List.map (Value.int IntKind.i64) p2_number_c0_Rows)), (true, bx b3 27 [(Value.int IntKind.i64 p0_g_Size), p0_g_Rowsv]), (false, rd p0_g_Rowsv (List.map (Value.int IntKind.i64) p0_g_Rows)), (true, ow 3 v226 (List.map (Value.int IntKind.i64) l227))] → S_impl_greedyOrder__CardinalityOrderc1_j5 F x385 x418 x419 = some res4 → K409 a w := by
          intro x418 x419 a w hS hM hF
          unfold S_impl_greedyOrder__CardinalityOrderc1_j5 at hF
          refine hK409 _ _ ?_
          refine wp_region_lit ?_
          refine st_val hS rfl rfl (by decide) (rv_add (hS.ev rfl) (hS.ev rfl)) fun a hS => ?_
          refine st_val hS rfl rfl (by decide) (rv_move (hS.ev rfl)) fun a hS => ?_
          refine wpList_nil ?_
          cases hF
          exact hN4 _ _ _ rfl ⟨(hS.sub (sub_cons rfl (sub_cons rfl (sub_cons rfl (sub_cons rfl (sub_cons rfl (sub_cons rfl (sub_cons rfl sub_nil)))))))), (hM.pick [0, 1, 2, 3, 4] (by decide) rfl)⟩
        refine wp_block ?_
        refine wp_seq_k fun K420 hK420 => ?_
        refine wp_region_lit ?_
        refine st_val hS rfl rfl (by decide) (rv_move (hS.ev rfl)) fun a hS => ?_
        refine st_val hS rfl rfl (by decide) (rv_assign (hS.ev rfl)) fun a hS => ?_
        refine wpList_nil ?_
        refine hK420 _ _ ?_
        refine wp_seq_k fun K421 hK421 => ?_
        refine wp_region_lit ?_
        refine st_val hS rfl rfl (by decide) (rv_move (hS.ev rfl)) fun a hS => ?_
        refine st_val hS rfl rfl (by decide) (rv_move (hS.ev rfl)) fun a hS => ?_
        refine st_val hS rfl rfl (by decide) (rv_move (hS.ev rfl)) fun a hS => ?_
        obtain ⟨r423, hr, hF⟩ := bind_some hF
        refine st_wp hS rfl (wp_callv (vs := [(Value.int IntKind.i64 x385), v226]) (cap := [(fdp p2_number_c0b 0)]) hS rfl rfl rfl (by decide) fn_ok_76 rfl (c_impl_CardinalityOrder_c1 F x385 l227 p2_number_c0_Size p2_number_c0_Rows v226 p2_number_c0_Rowsv p2_number_c0b hr _ (rd_of_ow (hM.get 4 rfl)) (hM.get 1 rfl) (hM.get 0 rfl)) fun v w a hK hS => ?_)
        obtain ⟨rfl, hN⟩ := hK
        have hM := hM.fra hN.fr
        refine st_val hS rfl rfl (by decide) (rv_assign (hS.ev rfl)) fun a hS => ?_
        refine wpList_nil ?_
        refine hK421 _ _ ?_
        refine wp_seq_k fun K424 hK424 => ?_
        have hJ6 : ∀ (p426 : Bool) (a : Act) (w : World), Sl 51 [(2, (Value.func (Fn.func 76) #[] #[(fdp p2_number_c0b 0)])), (3, (fdp b3 0)), (8, v226), (9, (Value.int IntKind.i64 x383)), (10, (Value.int IntKind.i64 x384)), (11, (Value.int IntKind.i64 x385)), (12, (Value.int IntKind.i64 r423)), (26, (Value.int IntKind.i64 p0_g_Size)), (27, (Value.int IntKind.i64 x385)), (42, (Value.bool p426))] a → Mem Nob w0 w [(false, bx p2_number_c0b 27 [(Value.int IntKind.i64 p2_number_c0_Size), p2_number_c0_Rowsv]), (false, rd p2_number_c0_Rowsv (List.map (Value.int IntKind.i64) p2_number_c0_Rows)), (true, bx b3 27 [(Value.int IntKind.i64 p0_g_Size), p0_g_Rowsv]), (false, rd p0_g_Rowsv (List.map (Value.int IntKind.i64) p0_g_Rows)), (true, ow 3 v226 (List.map (Value.int IntKind.i64) l227))] → S_impl_greedyOrder__CardinalityOrderc1_j6 F x383 x384 x385 r423 p426 = some res4 → K424 a w := by
          intro p426 a w hS hM hF
          unfold S_impl_greedyOrder__CardinalityOrderc1_j6 at hF
          refine hK424 _ _ ?_
          rcases ite_some hF with ⟨hc, hF⟩ | ⟨hc, hF⟩
          · refine cond_t hS rfl hc ?_
            refine wp_region_lit ?_
            refine st_val hS rfl rfl (by decide) (rv_move (hS.ev rfl)) fun a hS => ?_
            refine st_val hS rfl rfl (by decide) (rv_move (hS.ev rfl)) fun a hS => ?_
            refine st_val hS rfl rfl (by decide) (rv_assign (hS.ev rfl)) fun a hS => ?_
            refine st_val hS rfl rfl (by decide) (rv_assign (hS.ev rfl)) fun a hS => ?_
            refine wpList_nil ?_
            exact hJ5 x385 r423 _ _ (hS.sub (sub_cons rfl (sub_cons rfl (sub_cons rfl (sub_cons rfl (sub_cons rfl (sub_cons rfl (sub_cons rfl sub_nil)))))))) (hM.pick [0, 1, 2, 3, 4] (by decide) rfl) hF
          · refine cond_f hS rfl hc ?_
            refine wp_skip ?_
            exact hJ5 x383 x384 _ _ (hS.sub (sub_cons rfl (sub_cons rfl (sub_cons rfl (sub_cons rfl (sub_cons rfl (sub_cons rfl (sub_cons rfl sub_nil)))))))) (hM.pick [0, 1, 2, 3, 4] (by decide) rfl) hF
        refine wp_region_lit ?_
        refine st_val hS rfl rfl (by decide) (rv_move (hS.ev rfl)) fun a hS => ?_
        refine st_val hS rfl rfl (by decide) (rv_move (hS.ev rfl)) fun a hS => ?_
        obtain ⟨r427, hr, hF⟩ := bind_some hF
        refine st_wp hS rfl (wp_call hS rfl rfl (by decide) fn_ok_65 rfl (c_slices_Contains_int F l227 x385 v226 hr _ (rd_of_ow (hM.get 4 rfl))) fun v w a hK hS => ?_)
        obtain ⟨rfl, hN⟩ := hK
        have hM := hM.fra hN.fr
        refine st_val hS rfl rfl (by decide) (rv_not (hS.ev rfl)) fun a hS => ?_
        refine st_val hS rfl rfl (by decide) (rv_move (hS.ev rfl)) fun a hS => ?_
        rcases ite_some hF with ⟨hc, hF⟩ | ⟨hc, hF⟩
        · have hS := hS.setb (t := 38) rfl hc
          refine st_val hS rfl rfl (by decide) (rv_move (hS.ev rfl)) fun a hS => ?_
          refine st_val hS rfl rfl (by decide) (rv_move (hS.ev rfl)) fun a hS => ?_
          refine st_val hS rfl rfl (by decide) (rv_gtr (hS.ev rfl) (hS.ev rfl)) fun a hS => ?_
          refine st_val hS rfl rfl (by decide) (rv_pick_t (hS.ev rfl) (hS.ev rfl)) fun a hS => ?_
          refine wpList_nil ?_
          exact hJ6 (decide (x384 < r423)) _ _ (hS.sub (sub_cons rfl (sub_cons rfl (sub_cons rfl (sub_cons rfl (sub_cons rfl (sub_cons rfl (sub_cons rfl (sub_cons rfl (sub_cons rfl (sub_cons rfl sub_nil))))))))))) (hM.pick [0, 1, 2, 3, 4] (by decide) rfl) hF
        · have hS := hS.setb (t := 38) rfl hc
          refine st_skip hS rfl rfl (by decide) fun a hS => ?_
          refine st_skip hS rfl rfl (by decide) fun a hS => ?_
          refine st_skip hS rfl rfl (by decide) fun a hS => ?_
          refine st_val hS rfl rfl (by decide) (rv_pick_f (hS.ev rfl) (hS.ev rfl)) fun a hS => ?_
          refine wpList_nil ?_
          exact hJ6 false _ _ (hS.sub (sub_cons rfl (sub_cons rfl (sub_cons rfl (sub_cons rfl (sub_cons rfl (sub_cons rfl (sub_cons rfl (sub_cons rfl (sub_cons rfl (sub_cons rfl sub_nil))))))))))) (hM.pick [0, 1, 2, 3, 4] (by decide) rfl) hF
      · refine cond_f hS rfl hc ?_
        refine wp_exit ?_
        cases hF
        exact hJ3 x383 _ _ (hS.sub (sub_cons rfl (sub_cons rfl (sub_cons rfl (sub_cons rfl sub_nil))))) (hM.pick [0, 1, 2, 3, 4] (by decide) rfl) (by have e := hX4 _ rfl; subst e; exact hF4)
    · refine cond_f hS rfl hc ?_
      refine wp_exit ?_
      cases hF
      exact hJ1 l227 v226 _ _ (hS.sub (sub_cons rfl sub_nil)) (hM.pick [4] (by decide) rfl) (by have e := hX2 _ rfl; subst e; exact hF2)


theorem c_impl_CardinalityOrder (F : Nat) (p0_g_Size : Int) (p0_g_Rows : List Int) (p1_start : Int) (p0_g_Rowsv : Value) {r : (List (Int)) × Bool} (hF : S_impl_CardinalityOrder F p0_g_Size p0_g_Rows p1_start = some r) (w0 : World) (h0 : RdRow w0 p0_g_Rowsv (List.map (Value.int IntKind.i64) p0_g_Rows)) :
    Calls Try.prog 43 [(Value.agg #[(Value.int IntKind.i64 p0_g_Size), p0_g_Rowsv]), (Value.int IntKind.i64 p1_start)].toArray w0 (retPost fun v w' => ∃ v9, v = (Value.tuple #[v9, (Value.bool r.2)]) ∧ Mem Nob w0 w' [(true, ow 3 v9 (List.map (Value.int IntKind.i64) r.1))]) := by
  have hM : Mem Nob w0 w0 [(false, rd p0_g_Rowsv (List.map (Value.int IntKind.i64) p0_g_Rows))] := (Mem.rcons (Mem.nil w0) h0 (by simp))
  refine enter2 Try.func43 rfl rfl rfl fun Q a hQr hQn hQp hS => ?_
  have hS : Sl 12 [(0, (Value.agg #[(Value.int IntKind.i64 p0_g_Size), p0_g_Rowsv])), (1, (Value.int IntKind.i64 p1_start))] a := hS
  unfold S_impl_CardinalityOrder at hF
  refine wp_seq_k fun K1 hK1 => ?_
  refine wp_region_lit ?_
  obtain ⟨b3, w, hr, hM⟩ := hM.boxE (ρ := a.eval) (dst := some 2) (ty := _) (pos := _) (af := _) (gd := _) (x := .tmp 0) (T := 27) [(Value.int IntKind.i64 p0_g_Size), p0_g_Rowsv] (hS.ev rfl) rfl
  refine st_val hS rfl rfl (by decide) hr fun a hS => ?_
  refine st_val hS rfl rfl (by decide) (rv_assign (hS.ev rfl)) fun a hS => ?_
  refine st_val hS rfl rfl (by decide) (rv_assign (hS.ev rfl)) fun a hS => ?_
  refine wpList_nil ?_
  refine hK1 _ _ ?_
  refine wp_seq_k fun K4 hK4 => ?_
  refine wp_region_lit ?_
  refine st_val hS rfl rfl (by decide) (rv_load_agg (hS.ev rfl) ty_ag_27 (hM.get 0 rfl) ty_sz_27) fun a hS => ?_
  refine st_val hS rfl rfl (by decide) (rv_move (hS.ev rfl)) fun a hS => ?_
  refine st_val hS rfl rfl (by decide) (rv_makeFunc hS rfl) fun a hS => ?_
  obtain ⟨r7, hr, hF⟩ := bind_some hF
  refine st_wp hS rfl (wp_call hS rfl rfl (by decide) fn_ok_70 rfl (c_impl_greedyOrder__CardinalityOrderc1 F p0_g_Size p0_g_Rows p1_start p0_g_Size p0_g_Rows p0_g_Rowsv p0_g_Rowsv b3 hr _ (hM.get 1 rfl) (hM.get 1 rfl) (hM.get 0 rfl)) fun v w a hK hS => ?_)
  obtain ⟨v8, rfl, hN⟩ := hK
  have hM := hM.add hN rfl
  refine st_val hS rfl rfl (by decide) (rv_extract (hS.ev rfl) rfl) fun a hS => ?_
  refine st_val hS rfl rfl (by decide) (rv_extract (hS.ev rfl) rfl) fun a hS => ?_
  refine st_val hS rfl rfl (by decide) (rv_assign (hS.ev rfl)) fun a hS => ?_
  refine st_val hS rfl rfl (by decide) (rv_assign (hS.ev rfl)) fun a hS => ?_
  refine wpList_nil ?_
  refine hK4 _ _ ?_
  refine wp_ret ?_
  cases hF
  exact hQr _ _ (r_2 hS rfl rfl rfl ⟨v8, rfl, hM.pick [0] (by decide) rfl⟩)


theorem c_laws_FnExactCardinalityOrder (F : Nat) (p0_aG_Size : Int) (p0_aG_Rows : List Int) (p1_aStart : Int) (p0_aG_Rowsv : Value) {r : Bool} (hF : S_laws_FnExactCardinalityOrder F p0_aG_Size p0_aG_Rows p1_aStart = some r) (w0 : World) (h0 : RdRow w0 p0_aG_Rowsv (List.map (Value.int IntKind.i64) p0_aG_Rows)) :
    Calls Try.prog 12 [(Value.agg #[(Value.int IntKind.i64 p0_aG_Size), p0_aG_Rowsv]), (Value.int IntKind.i64 p1_aStart)].toArray w0 (retPost fun v w' => v = (Value.bool r) ∧ Mem Nob w0 w' []) := by
  have hM : Mem Nob w0 w0 [(false, rd p0_aG_Rowsv (List.map (Value.int IntKind.i64) p0_aG_Rows))] := (Mem.rcons (Mem.nil w0) h0 (by simp))
  refine enter2 Try.func12 rfl rfl rfl fun Q a hQr hQn hQp hS => ?_
  have hS : Sl 101 [(0, (Value.agg #[(Value.int IntKind.i64 p0_aG_Size), p0_aG_Rowsv])), (1, (Value.int IntKind.i64 p1_aStart))] a := hS
  unfold S_laws_FnExactCardinalityOrder at hF
  refine wp_seq_k fun K1 hK1 => ?_
  refine wp_region_lit ?_
  obtain ⟨b3, w, hr, hM⟩ := hM.boxE (ρ := a.eval) (dst := some 2) (ty := _) (pos := _) (af := _) (gd := _) (x := .tmp 0) (T := 24) [(Value.int IntKind.i64 p0_aG_Size), p0_aG_Rowsv] (hS.ev rfl) rfl
  refine st_val hS rfl rfl (by decide) hr fun a hS => ?_
  refine st_val hS rfl rfl (by decide) (rv_assign (hS.ev rfl)) fun a hS => ?_
  refine wpList_nil ?_
  refine hK1 _ _ ?_
  refine wp_seq_k fun K4 hK4 => ?_
  refine wp_region_lit ?_
  refine st_val hS rfl rfl (by decide) (rv_assign (hS.ev rfl)) fun a hS => ?_
  refine wpList_nil ?_
  refine hK4 _ _ ?_
  refine wp_seq_k fun K5 hK5 => ?_
  refine wp_region_lit ?_
  refine st_val hS rfl rfl (by decide) (rv_load_agg (hS.ev rfl) ty_ag_24 (hM.get 0 rfl) ty_sz_24) fun a hS => ?_
  refine st_val hS rfl rfl (by decide) (rv_move (hS.ev rfl)) fun a hS => ?_
  obtain ⟨r7, hr, hF⟩ := bind_some hF
  refine st_wp hS rfl (wp_call hS rfl rfl (by decide) fn_ok_15 rfl (c_laws_szGraph F p0_aG_Size p0_aG_Rows 1048576 p0_aG_Rowsv hr _ (hM.get 1 rfl)) fun v w a hK hS => ?_)
  obtain ⟨rfl, hN⟩ := hK
  have hM := hM.fra hN.fr
  refine st_val hS rfl rfl (by decide) (rv_assign (hS.ev rfl)) fun a hS => ?_
  refine wpList_nil ?_
  refine hK5 _ _ ?_
  refine wp_seq_k fun K8 hK8 => ?_
  refine wp_seq_k fun K11 hK11 => ?_
  refine wp_region_lit ?_
  refine st_val hS rfl rfl (by decide) (rv_move (hS.ev rfl)) fun a hS => ?_
  refine st_val hS rfl rfl (by decide) (rv_lss (hS.ev rfl) (hS.ev rfl)) fun a hS => ?_
  refine wpList_nil ?_
  refine hK11 _ _ ?_
  rcases ite_some hF with ⟨hc, hF⟩ | ⟨hc, hF⟩
  · refine cond_t hS rfl hc ?_
    refine wp_seq_k fun K12 hK12 => ?_
    refine wp_region_lit ?_
    refine st_val hS rfl rfl (by decide) (rv_assign (hS.ev rfl)) fun a hS => ?_
    refine wpList_nil ?_
    refine hK12 _ _ ?_
    refine wp_ret ?_
    cases hF
    exact hQr _ _ (r_1 hS rfl rfl ⟨rfl, hM.pick [] (by decide) rfl⟩)
  · refine cond_f hS rfl hc ?_
    refine wp_skip ?_
    refine hK8 _ _ ?_
    refine wp_seq_k fun K13 hK13 => ?_
    refine wp_region_lit ?_
    refine st_val hS rfl rfl (by decide) (rv_load_agg (hS.ev rfl) ty_ag_24 (hM.get 0 rfl) ty_sz_24) fun a hS => ?_
    obtain ⟨r18, hr, hF⟩ := bind_some hF
    refine st_wp hS rfl (wp_call hS rfl rfl (by decide) fn_ok_17 rfl (c_laws_toGraph F p0_aG_Size p0_aG_Rows p0_aG_Rowsv hr _ (hM.get 1 rfl)) fun v w a hK hS => ?_)
    obtain ⟨v19, rfl, hN⟩ := hK
    have hM := hM.add hN rfl
    refine st_val hS rfl rfl (by decide) (rv_move (hS.ev rfl)) fun a hS => ?_
    obtain ⟨r20, hr, hF⟩ := bind_some hF
    refine st_wp hS rfl (wp_call hS rfl rfl (by decide) fn_ok_42 rfl (c_spec_CardinalityOrder F r18.1 r18.2 p1_aStart v19 hr _ (rd_of_ow (hM.get 0 rfl))) fun v w a hK hS => ?_)
    obtain ⟨v21, rfl, hN⟩ := hK
    have hM := hM.add hN rfl
    refine st_val hS rfl rfl (by decide) (rv_move (hS.ev rfl)) fun a hS => ?_
    refine st_val hS rfl rfl (by decide) (rv_extract (hS.ev rfl) rfl) fun a hS => ?_
    refine st_val hS rfl rfl (by decide) (rv_extract (hS.ev rfl) rfl) fun a hS => ?_
    refine st_val hS rfl rfl (by decide) (rv_assign (hS.ev rfl)) fun a hS => ?_
    refine st_val hS rfl rfl (by decide) (rv_assign (hS.ev rfl)) fun a hS => ?_
    refine wpList_nil ?_
    refine hK13 _ _ ?_
    refine wp_seq_k fun K22 hK22 => ?_
    refine wp_region_lit ?_
    refine st_val hS rfl rfl (by decide) (rv_load_agg (hS.ev rfl) ty_ag_24 (hM.get 2 rfl) ty_sz_24) fun a hS => ?_
    obtain ⟨r26, hr, hF⟩ := bind_some hF
    refine st_wp hS rfl (wp_call hS rfl rfl (by decide) fn_ok_17 rfl (c_laws_toGraph F p0_aG_Size p0_aG_Rows p0_aG_Rowsv hr _ (hM.get 3 rfl)) fun v w a hK hS => ?_)
    obtain ⟨v27, rfl, hN⟩ := hK
    have hM := hM.add hN rfl
    obtain ⟨b28, w, hr, hM⟩ := hM.allocE (ρ := a.eval) (dst := some 8) (ty := _) (pos := _) (af := _) (gd := _) (T := 27) (P := Try.prog) [(Value.int IntKind.i64 0), (Value.slice none 0 0)] ty_zr_27 rfl
    refine st_val hS rfl rfl (by decide) hr fun a hS => ?_
    have hM := hM.addNil 3
    have hM := hM.pick [1, 0, 2, 3, 4, 5, 6] (by decide) rfl
    obtain ⟨w, hr, hM⟩ := hM.st_agg (us := [(Value.int IntKind.i64 r26.1), v27]) (ρ := a.eval) (dst := none) (ty := _) (pos := _) (af := _) (gd := _) (x := .tmp 8) (y := .tmp 29) (hS.ev rfl) (hS.ev rfl) ty_sz_27 (all1_cons rfl (all1_cons (rd_one (rd_of_ow (hM.get 2 rfl))) all1_nil)) rfl
    refine st_unit hS rfl rfl hr ?_
    refine wpList_nil ?_
    refine hK22 _ _ ?_
    refine wp_seq_k fun K29 hK29 => ?_
    refine wp_region_lit ?_
    refine st_val hS rfl rfl (by decide) (rv_load_agg (hS.ev rfl) ty_ag_27 (hM.get 0 rfl) ty_sz_27) fun a hS => ?_
    refine st_val hS rfl rfl (by decide) (rv_move (hS.ev rfl)) fun a hS => ?_
    obtain ⟨r32, hr, hF⟩ := bind_some hF
    refine st_wp hS rfl (wp_call hS rfl rfl (by decide) fn_ok_43 rfl (c_impl_CardinalityOrder F r26.1 r26.2 p1_aStart v27 hr _ (rd_of_ow (hM.get 2 rfl))) fun v w a hK hS => ?_)
    obtain ⟨v33, rfl, hN⟩ := hK
    have hM := hM.add hN rfl
    refine st_val hS rfl rfl (by decide) (rv_move (hS.ev rfl)) fun a hS => ?_
    refine st_val hS rfl rfl (by decide) (rv_extract (hS.ev rfl) rfl) fun a hS => ?_
    refine st_val hS rfl rfl (by decide) (rv_extract (hS.ev rfl) rfl) fun a hS => ?_
    refine st_val hS rfl rfl (by decide) (rv_assign (hS.ev rfl)) fun a hS => ?_
    refine st_val hS rfl rfl (by decide) (rv_assign (hS.ev rfl)) fun a hS => ?_
    refine wpList_nil ?_
    refine hK29 _ _ ?_
    refine wp_seq_k fun K34 hK34 => ?_
    refine wp_seq_k fun K40 hK40 => ?_
    have hJ1 : ∀ (p42 : Bool) (a : Act) (w : World), Sl 101 [(1, (Value.int IntKind.i64 p1_aStart)), (2, (fdp b3 0)), (6, v21), (7, (Value.bool r20.2)), (8, (fdp b28 0)), (9, v33), (10, (Value.bool r32.2)), (44, (Value.bool p42))] a → Mem Nob w0 w [(true, bx b3 24 [(Value.int IntKind.i64 p0_aG_Size), p0_aG_Rowsv]), (false, rd p0_aG_Rowsv (List.map (Value.int IntKind.i64) p0_aG_Rows)), (true, ow 3 v21 (List.map (Value.int IntKind.i64) r20.1)), (true, bx b28 27 [(Value.int IntKind.i64 r26.1), v27]), (true, ow 3 v27 (List.map (Value.int IntKind.i64) r26.2)), (true, ow 3 v33 (List.map (Value.int IntKind.i64) r32.1))] → S_laws_FnExactCardinalityOrder_j1 F p0_aG_Size p0_aG_Rows p1_aStart r20 r26 r32 p42 = some r → K40 a w := by
      intro p42 a w hS hM hF
      unfold S_laws_FnExactCardinalityOrder_j1 at hF
      refine hK40 _ _ ?_
      rcases ite_some hF with ⟨hc, hF⟩ | ⟨hc, hF⟩
      · refine cond_t hS rfl hc ?_
        refine wp_seq_k fun K43 hK43 => ?_
        refine wp_region_lit ?_
        refine st_val hS rfl rfl (by decide) (rv_assign (hS.ev rfl)) fun a hS => ?_
        refine wpList_nil ?_
        refine hK43 _ _ ?_
        refine wp_ret ?_
        cases hF
        exact hQr _ _ (r_1 hS rfl rfl ⟨rfl, hM.pick [] (by decide) rfl⟩)
      · refine cond_f hS rfl hc ?_
        refine wp_skip ?_
        refine hK34 _ _ ?_
        refine wp_seq_k fun K44 hK44 => ?_
        refine wp_seq_k fun K53 hK53 => ?_
        refine an_start Nob ty_mixed fun w hf => ?_
        have hM := hM.fra hf
        have hB := hM
        have hM := hB.reg0
        refine an_take hS (i := 0) rfl (by kernel_rfl) (by kernel_rfl) (by kernel_rfl) rfl (by decide) (fun c a a' w hd h => hQp c a a' w hd h) rfl (fun w' hC' => (rv_load_agg (hS.ev rfl) ty_ag_27 ((hB.fra hC').get 3 rfl) ty_sz_27)) hM.fr fun a hS => ?_
        refine an_take hS (i := 1) rfl (by kernel_rfl) (by kernel_rfl) (by kernel_rfl) rfl (by decide) (fun c a a' w hd h => hQp c a a' w hd h) rfl (fun w' hC' => (rv_load_agg (hS.ev rfl) ty_ag_24 ((hB.fra hC').get 0 rfl) ty_sz_24)) hM.fr fun a hS => ?_
        obtain ⟨r57, hr, hF⟩ := bind_some hF
        refine an_one hS (i := 2) rfl (by kernel_rfl) rfl ?_
        refine wp_call hS rfl rfl (by decide) fn_ok_17 rfl (c_laws_toGraph F p0_aG_Size p0_aG_Rows p0_aG_Rowsv hr _ (hM.get 1 rfl)) fun v w a hK hS => ?_
        obtain ⟨v58, rfl, hN⟩ := hK
        have hM := hM.add hN rfl
        refine ⟨hM.fr, ?_⟩
        obtain ⟨r59, hr, hF⟩ := bind_some hF
        refine an_one hS (i := 3) rfl (by kernel_rfl) rfl ?_
        refine wp_call hS rfl rfl (by decide) fn_ok_20 rfl (c_laws_eqGraph F r26.1 r26.2 r57.1 r57.2 v27 v58 hr _ (rd_of_ow (hM.get 5 rfl)) (rd_of_ow (hM.get 0 rfl))) fun v w a hK hS => ?_
        obtain ⟨rfl, hN⟩ := hK
        have hM := hM.fra hN.fr
        refine ⟨hM.fr, ?_⟩
        refine an_take hS (i := 4) rfl (by kernel_rfl) (by kernel_rfl) (by kernel_rfl) rfl (by decide) (fun c a a' w hd h => hQp c a a' w hd h) rfl (fun w' hC' => (rv_not (hS.ev rfl))) hM.fr fun a hS => ?_
        refine an_done (by kernel_rfl) ?_
        have hN := hM.pick [0] (by decide) rfl
        have hM := Mem.callo (A := []) (B := [(true, bx b3 24 [(Value.int IntKind.i64 p0_aG_Size), p0_aG_Rowsv]), (false, rd p0_aG_Rowsv (List.map (Value.int IntKind.i64) p0_aG_Rows)), (true, ow 3 v21 (List.map (Value.int IntKind.i64) r20.1)), (true, bx b28 27 [(Value.int IntKind.i64 r26.1), v27]), (true, ow 3 v27 (List.map (Value.int IntKind.i64) r26.2)), (true, ow 3 v33 (List.map (Value.int IntKind.i64) r32.1))]) hB rfl (hN.memS fun _ h => h.elim) rfl
        refine hK53 _ _ ?_
        rcases ite_some hF with ⟨hc, hF⟩ | ⟨hc, hF⟩
        · refine cond_t hS rfl hc ?_
          refine wp_seq_k fun K60 hK60 => ?_
          refine wp_region_lit ?_
          refine st_val hS rfl rfl (by decide) (rv_assign (hS.ev rfl)) fun a hS => ?_
          refine wpList_nil ?_
          refine hK60 _ _ ?_
          refine wp_ret ?_
          cases hF
          exact hQr _ _ (r_1 hS rfl rfl ⟨rfl, hM.pick [] (by decide) rfl⟩)
        · refine cond_f hS rfl hc ?_
          refine wp_skip ?_
          refine hK44 _ _ ?_
          refine wp_seq_k fun K61 hK61 => ?_
          refine wp_region_lit ?_
          refine st_val hS rfl rfl (by decide) (rv_assign (hS.ev rfl)) fun a hS => ?_
          refine wpList_nil ?_
          refine hK61 _ _ ?_
          refine wp_seq_k fun K62 hK62 => ?_
          refine wp_region_lit ?_
          refine st_val hS rfl rfl (by decide) (rv_load_agg (hS.ev rfl) ty_ag_27 (hM.get 4 rfl) ty_sz_27) fun a hS => ?_
          refine st_val hS rfl rfl (by decide) (rv_move (hS.ev rfl)) fun a hS => ?_
          obtain ⟨r64, hr, hF⟩ := bind_some hF
          have hM := hM.pick [5, 0, 1, 2, 3, 4, 6] (by decide) rfl
          have hP := Mem.pre (A := [(true, ow 3 v27 (List.map (Value.int IntKind.i64) r26.2))]) (C := []) (B := [(true, ow 3 v58 (List.map (Value.int IntKind.i64) r57.2)), (true, bx b3 24 [(Value.int IntKind.i64 p0_aG_Size), p0_aG_Rowsv]), (false, rd p0_aG_Rowsv (List.map (Value.int IntKind.i64) p0_aG_Rows)), (true, ow 3 v21 (List.map (Value.int IntKind.i64) r20.1)), (true, bx b28 27 [(Value.int IntKind.i64 r26.1), v27]), (true, ow 3 v33 (List.map (Value.int IntKind.i64) r32.1))]) hM rfl weaks_nil
          refine st_wp hS rfl (wp_call hS rfl rfl (by decide) fn_ok_21 rfl (c_laws_markGraph F r26.1 r26.2 1 v27 hr _ hP) fun v w a hK hS => ?_)
          obtain ⟨rfl, hN⟩ := hK
          have hM := Mem.callo (A := [(true, ow 3 v27 (List.map (Value.int IntKind.i64) r26.2))]) (B := [(true, ow 3 v58 (List.map (Value.int IntKind.i64) r57.2)), (true, bx b3 24 [(Value.int IntKind.i64 p0_aG_Size), p0_aG_Rowsv]), (false, rd p0_aG_Rowsv (List.map (Value.int IntKind.i64) p0_aG_Rows)), (true, ow 3 v21 (List.map (Value.int IntKind.i64) r20.1)), (true, bx b28 27 [(Value.int IntKind.i64 r26.1), v27]), (true, ow 3 v33 (List.map (Value.int IntKind.i64) r32.1))]) hM rfl hN rfl
          refine st_val hS rfl rfl (by decide) (rv_assign (hS.ev rfl)) fun a hS => ?_
          refine wpList_nil ?_
          refine hK62 _ _ ?_
          refine wp_seq_k fun K65 hK65 => ?_
          refine wp_seq_k fun K71 hK71 => ?_
          have hJ2 : ∀ (p73 : Bool) (a : Act) (w : World), Sl 101 [(1, (Value.int IntKind.i64 p1_aStart)), (2, (fdp b3 0)), (6, v21), (7, (Value.bool r20.2)), (9, v33), (65, (Value.bool p73))] a → Mem Nob w0 w [(true, bx b3 24 [(Value.int IntKind.i64 p0_aG_Size), p0_aG_Rowsv]), (false, rd p0_aG_Rowsv (List.map (Value.int IntKind.i64) p0_aG_Rows)), (true, ow 3 v21 (List.map (Value.int IntKind.i64) r20.1)), (true, ow 3 v33 (List.map (Value.int IntKind.i64) r32.1))] → S_laws_FnExactCardinalityOrder_j2 F p0_aG_Size p0_aG_Rows p1_aStart r20 r32 p73 = some r → K71 a w := by
            intro p73 a w hS hM hF
            unfold S_laws_FnExactCardinalityOrder_j2 at hF
            refine hK71 _ _ ?_
            rcases ite_some hF with ⟨hc, hF⟩ | ⟨hc, hF⟩
            · refine cond_t hS rfl hc ?_
              refine wp_seq_k fun K74 hK74 => ?_
              refine wp_region_lit ?_
              refine st_val hS rfl rfl (by decide) (rv_assign (hS.ev rfl)) fun a hS => ?_
              refine wpList_nil ?_
              refine hK74 _ _ ?_
              refine wp_ret ?_
              cases hF
              exact hQr _ _ (r_1 hS rfl rfl ⟨rfl, hM.pick [] (by decide) rfl⟩)
            · refine cond_f hS rfl hc ?_
              refine wp_skip ?_
              refine hK65 _ _ ?_
              refine wp_seq_k fun K75 hK75 => ?_
              refine wp_region_lit ?_
              refine st_val hS rfl rfl (by decide) (rv_assign (hS.ev rfl)) fun a hS => ?_
              refine wpList_nil ?_
              refine hK75 _ _ ?_
              refine wp_seq_k fun K76 hK76 => ?_
              refine wp_region_lit ?_
              refine st_val hS rfl rfl (by decide) (rv_move (hS.ev rfl)) fun a hS => ?_
              refine st_val hS rfl rfl (by decide) (rv_move (hS.ev rfl)) fun a hS => ?_
              obtain ⟨r78, hr, hF⟩ := bind_some hF
              have hM := hM.pick [3, 0, 1, 2] (by decide) rfl
              have hP := Mem.pre (A := [(true, ow 3 v33 (List.map (Value.int IntKind.i64) r32.1))]) (C := []) (B := [(true, bx b3 24 [(Value.int IntKind.i64 p0_aG_Size), p0_aG_Rowsv]), (false, rd p0_aG_Rowsv (List.map (Value.int IntKind.i64) p0_aG_Rows)), (true, ow 3 v21 (List.map (Value.int IntKind.i64) r20.1))]) hM rfl weaks_nil
              refine st_wp hS rfl (wp_call hS rfl rfl (by decide) fn_ok_22 rfl (c_laws_markIntS F r32.1 1 v33 hr _ hP) fun v w a hK hS => ?_)
              obtain ⟨rfl, hN⟩ := hK
              have hM := Mem.callo (A := [(true, ow 3 v33 (List.map (Value.int IntKind.i64) r32.1))]) (B := [(true, bx b3 24 [(Value.int IntKind.i64 p0_aG_Size), p0_aG_Rowsv]), (false, rd p0_aG_Rowsv (List.map (Value.int IntKind.i64) p0_aG_Rows)), (true, ow 3 v21 (List.map (Value.int IntKind.i64) r20.1))]) hM rfl hN rfl
              refine st_val hS rfl rfl (by decide) (rv_assign (hS.ev rfl)) fun a hS => ?_
              refine wpList_nil ?_
              refine hK76 _ _ ?_
              refine wp_seq_k fun K79 hK79 => ?_
              refine wp_region_lit ?_
              refine st_val hS rfl rfl (by decide) (rv_assign (hS.ev rfl)) fun a hS => ?_
              refine wpList_nil ?_
              refine hK79 _ _ ?_
              refine wp_seq_k fun K80 hK80 => ?_
              refine wp_region_lit ?_
              refine st_val hS rfl rfl (by decide) (rv_move (hS.ev rfl)) fun a hS => ?_
              refine st_val hS rfl rfl (by decide) (rv_move (hS.ev rfl)) fun a hS => ?_
              obtain ⟨r82, hr, hF⟩ := bind_some hF
              refine st_wp hS rfl (wp_call hS rfl rfl (by decide) fn_ok_23 rfl (c_laws_heldIntS F r78.2 1 v33 hr _ (rd_of_ow (hM.get 0 rfl))) fun v w a hK hS => ?_)
              obtain ⟨rfl, hN⟩ := hK
              have hM := hM.fra hN.fr
              refine st_val hS rfl rfl (by decide) (rv_assign (hS.ev rfl)) fun a hS => ?_
              refine wpList_nil ?_
              refine hK80 _ _ ?_
              refine wp_seq_k fun K83 hK83 => ?_
              refine wp_seq_k fun K86 hK86 => ?_
              refine wp_region_lit ?_
              refine st_val hS rfl rfl (by decide) (rv_move (hS.ev rfl)) fun a hS => ?_
              refine st_val hS rfl rfl (by decide) (rv_lss (hS.ev rfl) (hS.ev rfl)) fun a hS => ?_
              refine wpList_nil ?_
              refine hK86 _ _ ?_
              rcases ite_some hF with ⟨hc, hF⟩ | ⟨hc, hF⟩
              · refine cond_t hS rfl hc ?_
                refine wp_seq_k fun K87 hK87 => ?_
                refine wp_region_lit ?_
                refine st_val hS rfl rfl (by decide) (rv_assign (hS.ev rfl)) fun a hS => ?_
                refine wpList_nil ?_
                refine hK87 _ _ ?_
                refine wp_ret ?_
                cases hF
                exact hQr _ _ (r_1 hS rfl rfl ⟨rfl, hM.pick [] (by decide) rfl⟩)
              · refine cond_f hS rfl hc ?_
                refine wp_skip ?_
                refine hK83 _ _ ?_
                refine wp_seq_k fun K88 hK88 => ?_
                refine wp_seq_k fun K91 hK91 => ?_
                refine wp_region_lit ?_
                refine st_val hS rfl rfl (by decide) (rv_move (hS.ev rfl)) fun a hS => ?_
                refine st_val hS rfl rfl (by decide) (rv_move (hS.ev rfl)) fun a hS => ?_
                refine st_val hS rfl rfl (by decide) (rv_neq (hS.ev rfl) (hS.ev rfl)) fun a hS => ?_
                refine wpList_nil ?_
                refine hK91 _ _ ?_
                rcases ite_some hF with ⟨hc, hF⟩ | ⟨hc, hF⟩
                · refine cond_t hS rfl hc ?_
                  refine wp_seq_k fun K92 hK92 => ?_
                  refine wp_region_lit ?_
                  refine st_val hS rfl rfl (by decide) (rv_assign (hS.ev rfl)) fun a hS => ?_
                  refine wpList_nil ?_
                  refine hK92 _ _ ?_
                  refine wp_ret ?_
                  cases hF
                  exact hQr _ _ (r_1 hS rfl rfl ⟨rfl, hM.pick [] (by decide) rfl⟩)
                · refine cond_f hS rfl hc ?_
                  refine wp_skip ?_
                  refine hK88 _ _ ?_
                  refine wp_seq_k fun K93 hK93 => ?_
                  refine wp_region_lit ?_
                  refine st_val hS rfl rfl (by decide) (rv_load_agg (hS.ev rfl) ty_ag_24 (hM.get 1 rfl) ty_sz_24) fun a hS => ?_
                  obtain ⟨r98, hr, hF⟩ := bind_some hF
                  refine st_wp hS rfl (wp_call hS rfl rfl (by decide) fn_ok_17 rfl (c_laws_toGraph F p0_aG_Size p0_aG_Rows p0_aG_Rowsv hr _ (hM.get 2 rfl)) fun v w a hK hS => ?_)
                  obtain ⟨v99, rfl, hN⟩ := hK
                  have hM := hM.add hN rfl
                  refine st_val hS rfl rfl (by decide) (rv_move (hS.ev rfl)) fun a hS => ?_
                  obtain ⟨r100, hr, hF⟩ := bind_some hF
                  refine st_wp hS rfl (wp_call hS rfl rfl (by decide) fn_ok_43 rfl (c_impl_CardinalityOrder F r98.1 r98.2 p1_aStart v99 hr _ (rd_of_ow (hM.get 0 rfl))) fun v w a hK hS => ?_)
                  obtain ⟨v101, rfl, hN⟩ := hK
                  have hM := hM.add hN rfl
                  refine st_val hS rfl rfl (by decide) (rv_move (hS.ev rfl)) fun a hS => ?_
                  refine st_val hS rfl rfl (by decide) (rv_extract (hS.ev rfl) rfl) fun a hS => ?_
                  refine st_val hS rfl rfl (by decide) (rv_extract (hS.ev rfl) rfl) fun a hS => ?_
                  refine st_val hS rfl rfl (by decide) (rv_assign (hS.ev rfl)) fun a hS => ?_
                  refine st_val hS rfl rfl (by decide) (rv_assign (hS.ev rfl)) fun a hS => ?_
                  refine wpList_nil ?_
                  refine hK93 _ _ ?_
                  refine wp_seq_k fun K102 hK102 => ?_
                  refine wp_seq_k fun K108 hK108 => ?_
                  have hJ3 : ∀ (p110 : Bool) (a : Act) (w : World), Sl 101 [(9, v33), (12, (Value.int IntKind.i64 r78.1)), (92, (Value.bool p110))] a → Mem Nob w0 w [(true, ow 3 v33 (List.map (Value.int IntKind.i64) r78.2))] → S_laws_FnExactCardinalityOrder_j3 F r78 p110 = some r → K108 a w := by
                    intro p110 a w hS hM hF
                    unfold S_laws_FnExactCardinalityOrder_j3 at hF
                    refine hK108 _ _ ?_
                    rcases ite_some hF with ⟨hc, hF⟩ | ⟨hc, hF⟩
                    · refine cond_t hS rfl hc ?_
                      refine wp_seq_k fun K111 hK111 => ?_
                      refine wp_region_lit ?_
                      refine st_val hS rfl rfl (by decide) (rv_assign (hS.ev rfl)) fun a hS => ?_
                      refine wpList_nil ?_
                      refine hK111 _ _ ?_
                      refine wp_ret ?_
                      cases hF
                      exact hQr _ _ (r_1 hS rfl rfl ⟨rfl, hM.pick [] (by decide) rfl⟩)
                    · refine cond_f hS rfl hc ?_
                      refine wp_skip ?_
                      refine hK102 _ _ ?_
                      refine wp_seq_k fun K112 hK112 => ?_
                      refine wp_region_lit ?_
                      refine st_val hS rfl rfl (by decide) (rv_assign (hS.ev rfl)) fun a hS => ?_
                      refine wpList_nil ?_
                      refine hK112 _ _ ?_
                      refine wp_seq_k fun K113 hK113 => ?_
                      refine wp_region_lit ?_
                      refine st_val hS rfl rfl (by decide) (rv_move (hS.ev rfl)) fun a hS => ?_
                      refine st_val hS rfl rfl (by decide) (rv_move (hS.ev rfl)) fun a hS => ?_
                      obtain ⟨r115, hr, hF⟩ := bind_some hF
                      refine st_wp hS rfl (wp_call hS rfl rfl (by decide) fn_ok_23 rfl (c_laws_heldIntS F r78.2 1 v33 hr _ (rd_of_ow (hM.get 0 rfl))) fun v w a hK hS => ?_)
                      obtain ⟨rfl, hN⟩ := hK
                      have hM := hM.fra hN.fr
                      refine st_val hS rfl rfl (by decide) (rv_assign (hS.ev rfl)) fun a hS => ?_
                      refine wpList_nil ?_
                      refine hK113 _ _ ?_
                      refine wp_seq_k fun K116 hK116 => ?_
                      refine wp_seq_k fun K119 hK119 => ?_
                      refine wp_region_lit ?_
                      refine st_val hS rfl rfl (by decide) (rv_move (hS.ev rfl)) fun a hS => ?_
                      refine st_val hS rfl rfl (by decide) (rv_lss (hS.ev rfl) (hS.ev rfl)) fun a hS => ?_
                      refine wpList_nil ?_
                      refine hK119 _ _ ?_
                      rcases ite_some hF with ⟨hc, hF⟩ | ⟨hc, hF⟩
                      · refine cond_t hS rfl hc ?_
                        refine wp_seq_k fun K120 hK120 => ?_
                        refine wp_region_lit ?_
                        refine st_val hS rfl rfl (by decide) (rv_assign (hS.ev rfl)) fun a hS => ?_
                        refine wpList_nil ?_
                        refine hK120 _ _ ?_
                        refine wp_ret ?_
                        cases hF
                        exact hQr _ _ (r_1 hS rfl rfl ⟨rfl, hM.pick [] (by decide) rfl⟩)
                      · refine cond_f hS rfl hc ?_
                        refine wp_skip ?_
                        refine hK116 _ _ ?_
                        refine wp_seq_k fun K121 hK121 => ?_
                        refine wp_seq_k fun K124 hK124 => ?_
                        refine wp_region_lit ?_
                        refine st_val hS rfl rfl (by decide) (rv_move (hS.ev rfl)) fun a hS => ?_
                        refine st_val hS rfl rfl (by decide) (rv_move (hS.ev rfl)) fun a hS => ?_
                        refine st_val hS rfl rfl (by decide) (rv_neq (hS.ev rfl) (hS.ev rfl)) fun a hS => ?_
                        refine wpList_nil ?_
                        refine hK124 _ _ ?_
                        rcases ite_some hF with ⟨hc, hF⟩ | ⟨hc, hF⟩
                        · refine cond_t hS rfl hc ?_
                          refine wp_seq_k fun K125 hK125 => ?_
                          refine wp_region_lit ?_
                          refine st_val hS rfl rfl (by decide) (rv_assign (hS.ev rfl)) fun a hS => ?_
                          refine wpList_nil ?_
                          refine hK125 _ _ ?_
                          refine wp_ret ?_
                          cases hF
                          exact hQr _ _ (r_1 hS rfl rfl ⟨rfl, hM.pick [] (by decide) rfl⟩)
                        · refine cond_f hS rfl hc ?_
                          refine wp_skip ?_
                          refine hK121 _ _ ?_
                          refine wp_seq_k fun K126 hK126 => ?_
                          refine wp_region_lit ?_
                          refine st_val hS rfl rfl (by decide) (rv_assign (hS.ev rfl)) fun a hS => ?_
                          refine wpList_nil ?_
                          refine hK126 _ _ ?_
                          refine wp_ret ?_
                          cases hF
                          exact hQr _ _ (r_1 hS rfl rfl ⟨rfl, hM.pick [] (by decide) rfl⟩)
                  refine wp_region_lit ?_
                  refine st_val hS rfl rfl (by decide) (rv_move (hS.ev rfl)) fun a hS => ?_
                  refine st_val hS rfl rfl (by decide) (rv_move (hS.ev rfl)) fun a hS => ?_
                  obtain ⟨r127, hr, hF⟩ := bind_some hF
                  refine st_wp hS rfl (wp_call hS rfl rfl (by decide) fn_ok_19 rfl (c_laws_eqIntS F r100.1 r20.1 v101 v21 hr _ (rd_of_ow (hM.get 0 rfl)) (rd_of_ow (hM.get 5 rfl))) fun v w a hK hS => ?_)
                  obtain ⟨rfl, hN⟩ := hK
                  have hM := hM.fra hN.fr
                  refine st_val hS rfl rfl (by decide) (rv_not (hS.ev rfl)) fun a hS => ?_
                  refine st_val hS rfl rfl (by decide) (rv_move (hS.ev rfl)) fun a hS => ?_
                  rcases ite_some hF with ⟨hc, hF⟩ | ⟨hc, hF⟩
                  · have hS := hS.setb (t := 88) rfl hc
                    refine st_skip hS rfl rfl (by decide) fun a hS => ?_
                    refine st_skip hS rfl rfl (by decide) fun a hS => ?_
                    refine st_skip hS rfl rfl (by decide) fun a hS => ?_
                    refine st_val hS rfl rfl (by decide) (rv_pick_t (hS.ev rfl) (hS.ev rfl)) fun a hS => ?_
                    refine wpList_nil ?_
                    exact hJ3 true _ _ (hS.sub (sub_cons rfl (sub_cons rfl (sub_cons rfl sub_nil)))) (hM.pick [2] (by decide) rfl) hF
                  · have hS := hS.setb (t := 88) rfl hc
                    refine st_val hS rfl rfl (by decide) (rv_move (hS.ev rfl)) fun a hS => ?_
                    refine st_val hS rfl rfl (by decide) (rv_move (hS.ev rfl)) fun a hS => ?_
                    refine st_val hS rfl rfl (by decide) (rv_bneq Try.underlying4 (hS.ev rfl) (hS.ev rfl)) fun a hS => ?_
                    refine st_val hS rfl rfl (by decide) (rv_pick_f (hS.ev rfl) (hS.ev rfl)) fun a hS => ?_
                    refine wpList_nil ?_
                    exact hJ3 (r100.2 != r20.2) _ _ (hS.sub (sub_cons rfl (sub_cons rfl (sub_cons rfl sub_nil)))) (hM.pick [2] (by decide) rfl) hF
          refine wp_region_lit ?_
          refine st_val hS rfl rfl (by decide) (rv_move (hS.ev rfl)) fun a hS => ?_
          refine st_val hS rfl rfl (by decide) (rv_lss (hS.ev rfl) (hS.ev rfl)) fun a hS => ?_
          refine st_val hS rfl rfl (by decide) (rv_move (hS.ev rfl)) fun a hS => ?_
          rcases ite_some hF with ⟨hc, hF⟩ | ⟨hc, hF⟩
          · have hS := hS.setb (t := 55) rfl hc
            refine st_skip hS rfl rfl (by decide) fun a hS => ?_
            refine st_skip hS rfl rfl (by decide) fun a hS => ?_
            refine st_skip hS rfl rfl (by decide) fun a hS => ?_
            refine st_skip hS rfl rfl (by decide) fun a hS => ?_
            refine st_val hS rfl rfl (by decide) (rv_pick_t (hS.ev rfl) (hS.ev rfl)) fun a hS => ?_
            refine st_val hS rfl rfl (by decide) (rv_move (hS.ev rfl)) fun a hS => ?_
            refine st_skip hS rfl rfl (by decide) fun a hS => ?_
            refine st_skip hS rfl rfl (by decide) fun a hS => ?_
            refine st_skip hS rfl rfl (by decide) fun a hS => ?_
            refine st_val hS rfl rfl (by decide) (rv_pick_t (hS.ev rfl) (hS.ev rfl)) fun a hS => ?_
            refine wpList_nil ?_
            exact hJ2 true _ _ (hS.sub (sub_cons rfl (sub_cons rfl (sub_cons rfl (sub_cons rfl (sub_cons rfl (sub_cons rfl sub_nil))))))) (hM.pick [2, 3, 4, 6] (by decide) rfl) hF
          · have hS := hS.setb (t := 55) rfl hc
            refine st_val hS rfl rfl (by decide) (rv_move (hS.ev rfl)) fun a hS => ?_
            refine st_val hS rfl rfl (by decide) (rv_move (hS.ev rfl)) fun a hS => ?_
            obtain ⟨r128, hr, hF⟩ := bind_some hF
            refine st_wp hS rfl (wp_call hS rfl rfl (by decide) fn_ok_19 rfl (c_laws_eqIntS F r32.1 r20.1 v33 v21 hr _ (rd_of_ow (hM.get 6 rfl)) (rd_of_ow (hM.get 4 rfl))) fun v w a hK hS => ?_)
            obtain ⟨rfl, hN⟩ := hK
            have hM := hM.fra hN.fr
            refine st_val hS rfl rfl (by decide) (rv_not (hS.ev rfl)) fun a hS => ?_
            refine st_val hS rfl rfl (by decide) (rv_pick_f (hS.ev rfl) (hS.ev rfl)) fun a hS => ?_
            refine st_val hS rfl rfl (by decide) (rv_move (hS.ev rfl)) fun a hS => ?_
            rcases ite_some hF with ⟨hc, hF⟩ | ⟨hc, hF⟩
            · have hS := hS.setb (t := 61) rfl hc
              refine st_skip hS rfl rfl (by decide) fun a hS => ?_
              refine st_skip hS rfl rfl (by decide) fun a hS => ?_
              refine st_skip hS rfl rfl (by decide) fun a hS => ?_
              refine st_val hS rfl rfl (by decide) (rv_pick_t (hS.ev rfl) (hS.ev rfl)) fun a hS => ?_
              refine wpList_nil ?_
              exact hJ2 true _ _ (hS.sub (sub_cons rfl (sub_cons rfl (sub_cons rfl (sub_cons rfl (sub_cons rfl (sub_cons rfl sub_nil))))))) (hM.pick [2, 3, 4, 6] (by decide) rfl) hF
            · have hS := hS.setb (t := 61) rfl hc
              refine st_val hS rfl rfl (by decide) (rv_move (hS.ev rfl)) fun a hS => ?_
              refine st_val hS rfl rfl (by decide) (rv_move (hS.ev rfl)) fun a hS => ?_
              refine st_val hS rfl rfl (by decide) (rv_bneq Try.underlying4 (hS.ev rfl) (hS.ev rfl)) fun a hS => ?_
              refine st_val hS rfl rfl (by decide) (rv_pick_f (hS.ev rfl) (hS.ev rfl)) fun a hS => ?_
              refine wpList_nil ?_
              exact hJ2 (r32.2 != r20.2) _ _ (hS.sub (sub_cons rfl (sub_cons rfl (sub_cons rfl (sub_cons rfl (sub_cons rfl (sub_cons rfl sub_nil))))))) (hM.pick [2, 3, 4, 6] (by decide) rfl) hF
    refine wp_region_lit ?_
    refine st_val hS rfl rfl (by decide) (rv_move (hS.ev rfl)) fun a hS => ?_
    refine st_val hS rfl rfl (by decide) (rv_move (hS.ev rfl)) fun a hS => ?_
    obtain ⟨r129, hr, hF⟩ := bind_some hF
    refine st_wp hS rfl (wp_call hS rfl rfl (by decide) fn_ok_19 rfl (c_laws_eqIntS F r32.1 r20.1 v33 v21 hr _ (rd_of_ow (hM.get 0 rfl)) (rd_of_ow (hM.get 4 rfl))) fun v w a hK hS => ?_)
    obtain ⟨rfl, hN⟩ := hK
    have hM := hM.fra hN.fr
    refine st_val hS rfl rfl (by decide) (rv_not (hS.ev rfl)) fun a hS => ?_
    refine st_val hS rfl rfl (by decide) (rv_move (hS.ev rfl)) fun a hS => ?_
    rcases ite_some hF with ⟨hc, hF⟩ | ⟨hc, hF⟩
    · have hS := hS.setb (t := 40) rfl hc
      refine st_skip hS rfl rfl (by decide) fun a hS => ?_
      refine st_skip hS rfl rfl (by decide) fun a hS => ?_
      refine st_skip hS rfl rfl (by decide) fun a hS => ?_
      refine st_val hS rfl rfl (by decide) (rv_pick_t (hS.ev rfl) (hS.ev rfl)) fun a hS => ?_
      refine wpList_nil ?_
      exact hJ1 true _ _ (hS.sub (sub_cons rfl (sub_cons rfl (sub_cons rfl (sub_cons rfl (sub_cons rfl (sub_cons rfl (sub_cons rfl (sub_cons rfl sub_nil))))))))) (hM.pick [6, 7, 4, 1, 3, 0] (by decide) rfl) hF
    · have hS := hS.setb (t := 40) rfl hc
      refine st_val hS rfl rfl (by decide) (rv_move (hS.ev rfl)) fun a hS => ?_
      refine st_val hS rfl rfl (by decide) (rv_move (hS.ev rfl)) fun a hS => ?_
      refine st_val hS rfl rfl (by decide) (rv_bneq Try.underlying4 (hS.ev rfl) (hS.ev rfl)) fun a hS => ?_
      refine st_val hS rfl rfl (by decide) (rv_pick_f (hS.ev rfl) (hS.ev rfl)) fun a hS => ?_
      refine wpList_nil ?_
      exact hJ1 (r32.2 != r20.2) _ _ (hS.sub (sub_cons rfl (sub_cons rfl (sub_cons rfl (sub_cons rfl (sub_cons rfl (sub_cons rfl (sub_cons rfl (sub_cons rfl sub_nil))))))))) (hM.pick [6, 7, 4, 1, 3, 0] (by decide) rfl) hF


end Go.Proofs.Ytnlabnkgcncmlaa
