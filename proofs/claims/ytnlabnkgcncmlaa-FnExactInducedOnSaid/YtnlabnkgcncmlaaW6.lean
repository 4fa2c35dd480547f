/- Proved here: that each Go function does what its shallow function says -/
import Derived.Test.YtnlabnkgcncmlaaSh
import Derived.Test.YtnlabnkgcncmlaaTy
import Derived.Test.YtnlabnkgcncmlaaK9
import Derived.Test.YtnlabnkgcncmlaaW0
import Derived.Test.YtnlabnkgcncmlaaW1
import Derived.Test.YtnlabnkgcncmlaaW2
import Derived.Test.YtnlabnkgcncmlaaW3
namespace Go.Proofs.Ytnlabnkgcncmlaa
open Go Go.RowKit
set_option linter.unusedVariables false
set_option linter.unusedSimpArgs false
set_option maxRecDepth 100000
set_option maxHeartbeats 4000000

theorem c_spec_InducedOn (F : Nat) (p0_g_Size : Int) (p0_g_Rows : List Int) (p1_set : Int) (p0_g_Rowsv : Value) {r : Int × (List (Int)) × Bool} (hF : S_spec_InducedOn F p0_g_Size p0_g_Rows p1_set = some r) (w0 : World) (h0 : RdRow w0 p0_g_Rowsv (List.map (Value.int IntKind.i64) p0_g_Rows)) :
    Calls Try.prog 33 [(Value.agg #[(Value.int IntKind.i64 p0_g_Size), p0_g_Rowsv]), (Value.int IntKind.i64 p1_set)].toArray w0 (retPost fun v w' => ∃ v1107, v = (Value.tuple #[(Value.agg #[(Value.int IntKind.i64 r.1), v1107]), (Value.bool r.2.2)]) ∧ Mem Nob w0 w' [(true, ow 3 v1107 (List.map (Value.int IntKind.i64) r.2.1))]) := by
  have hM : Mem Nob w0 w0 [(false, rd p0_g_Rowsv (List.map (Value.int IntKind.i64) p0_g_Rows))] := (Mem.rcons (Mem.nil w0) h0 (by simp))
  refine enter2 Try.func33 rfl rfl rfl fun Q a hQr hQn hQp hS => ?_
  have hS : Sl 58 [(0, (Value.agg #[(Value.int IntKind.i64 p0_g_Size), p0_g_Rowsv])), (1, (Value.int IntKind.i64 p1_set))] a := hS
  unfold S_spec_InducedOn at hF
  refine wp_seq_k fun K1 hK1 => ?_
  refine wp_region_lit ?_
  obtain ⟨b4, w, hr, hM⟩ := hM.boxE (ρ := a.eval) (dst := some 2) (ty := _) (pos := _) (af := _) (gd := _) (x := .tmp 0) (T := 27) [(Value.int IntKind.i64 p0_g_Size), p0_g_Rowsv] (hS.ev rfl) rfl
  refine st_val hS rfl rfl (by decide) hr fun a hS => ?_
  obtain ⟨b5, w, hr, hM⟩ := hM.allocE (ρ := a.eval) (dst := some 4) (ty := _) (pos := _) (af := _) (gd := _) (T := 27) (P := Try.prog) [(Value.int IntKind.i64 0), (Value.slice none 0 0)] ty_zr_27 rfl
  refine st_val hS rfl rfl (by decide) hr fun a hS => ?_
  have hM := hM.addNil 3
  refine st_val hS rfl rfl (by decide) (rv_assign (hS.ev rfl)) fun a hS => ?_
  refine wpList_nil ?_
  refine hK1 _ _ ?_
  refine wp_seq_k fun K6 hK6 => ?_
  refine wp_seq_k fun K12 hK12 => ?_
  have hJ1 : ∀ (p14 : Bool) (a : Act) (w : World), Sl 58 [(1, (Value.int IntKind.i64 p1_set)), (2, (fdp b4 0)), (4, (fdp b5 0)), (18, (Value.bool p14))] a → Mem Nob w0 w [(true, bx b4 27 [(Value.int IntKind.i64 p0_g_Size), p0_g_Rowsv]), (false, rd p0_g_Rowsv (List.map (Value.int IntKind.i64) p0_g_Rows)), (true, bx b5 27 [(Value.int IntKind.i64 0), (Value.slice none 0 0)]), (true, ow 3 (Value.slice none 0 0) (List.map (Value.int IntKind.i64) ([] : List (Int))))] → S_spec_InducedOn_j1 F p0_g_Size p0_g_Rows p1_set p14 = some r → K12 a w := by
    intro p14 a w hS hM hF
    unfold S_spec_InducedOn_j1 at hF
    refine hK12 _ _ ?_
    rcases ite_some hF with ⟨hc, hF⟩ | ⟨hc, hF⟩
    · refine cond_t hS rfl hc ?_
      refine wp_seq_k fun K15 hK15 => ?_
      refine wp_region_lit ?_
      refine st_val hS rfl rfl (by decide) (rv_build hS ty_st_27 rfl (by simp) ones_nil) fun a hS => ?_
      have hM := hM.pick [2, 0, 1, 3] (by decide) rfl
      obtain ⟨w, hr, hM⟩ := hM.st_agg (us := [(Value.int IntKind.i64 0), (Value.slice none 0 0)]) (ρ := a.eval) (dst := none) (ty := _) (pos := _) (af := _) (gd := _) (x := .tmp 4) (y := .tmp 19) (hS.ev rfl) (hS.ev rfl) ty_sz_27 (all1_cons rfl (all1_cons rfl all1_nil)) rfl
      refine st_unit hS rfl rfl hr ?_
      have hM := hM.addNil 3
      refine st_val hS rfl rfl (by decide) (rv_assign (hS.ev rfl)) fun a hS => ?_
      refine wpList_nil ?_
      refine hK15 _ _ ?_
      refine wp_ret ?_
      cases hF
      exact hQr _ _ (r_cc hS rfl ⟨_, rfl, run_loadAgg ty_ag_27 (hM.get 1 rfl) ty_sz_27⟩ rfl ⟨(Value.slice none 0 0), rfl, hM.pick [0] (by decide) rfl⟩)
    · refine cond_f hS rfl hc ?_
      refine wp_skip ?_
      refine hK6 _ _ ?_
      refine wp_seq_k fun K16 hK16 => ?_
      refine wp_region_lit ?_
      refine st_val hS rfl rfl (by decide) (rv_move (hS.ev rfl)) fun a hS => ?_
      obtain ⟨r19, hr, hF⟩ := bind_some hF
      refine st_wp hS rfl (wp_call hS rfl rfl (by decide) fn_ok_67 rfl (c_spec_ListOf F p1_set hr _) fun v20 w a hK hS => ?_)
      have hN := hK
      have hM := hM.add hN rfl
      refine st_val hS rfl rfl (by decide) (rv_assign (hS.ev rfl)) fun a hS => ?_
      refine wpList_nil ?_
      refine hK16 _ _ ?_
      refine wp_seq_k fun K21 hK21 => ?_
      refine wp_region_lit ?_
      refine st_val hS rfl rfl (by decide) (rv_move (hS.ev rfl)) fun a hS => ?_
      refine st_val hS rfl rfl (by decide) (rv_len_rowM Try.underlying22 (hS.ev rfl) (rd_of_ow (hM.get 0 rfl))) fun a hS => ?_
      refine st_val hS rfl rfl (by decide) (rv_build hS ty_st_27 rfl (by simp) (ones_cons (by rw [hS.ev (v := (Value.int IntKind.i64 (r19.length : Int))) rfl]; rfl) ones_nil)) fun a hS => ?_
      obtain ⟨b23, w, hr, hM⟩ := hM.allocE (ρ := a.eval) (dst := some 7) (ty := _) (pos := _) (af := _) (gd := _) (T := 27) (P := Try.prog) [(Value.int IntKind.i64 0), (Value.slice none 0 0)] ty_zr_27 rfl
      refine st_val hS rfl rfl (by decide) hr fun a hS => ?_
      have hM := hM.addNil 3
      have hM := hM.pick [1, 0, 2, 3, 4, 5, 6] (by decide) rfl
      obtain ⟨w, hr, hM⟩ := hM.st_agg (us := [(Value.int IntKind.i64 (r19.length : Int)), (Value.slice none 0 0)]) (ρ := a.eval) (dst := none) (ty := _) (pos := _) (af := _) (gd := _) (x := .tmp 7) (y := .tmp 24) (hS.ev rfl) (hS.ev rfl) ty_sz_27 (all1_cons rfl (all1_cons rfl all1_nil)) rfl
      refine st_unit hS rfl rfl hr ?_
      have hM := hM.addNil 3
      refine wpList_nil ?_
      refine hK21 _ _ ?_
      refine wp_seq_k fun K24 hK24 => ?_
      have hJ2 : ∀ (l565 : List Int) (v564 : Value) (a : Act) (w : World), Sl 58 [(4, (fdp b5 0)), (7, (fdp b23 0))] a → Mem Nob w0 w [(true, bx b5 27 [(Value.int IntKind.i64 0), (Value.slice none 0 0)]), (true, ow 3 (Value.slice none 0 0) (List.map (Value.int IntKind.i64) ([] : List (Int)))), (true, bx b23 27 [(Value.int IntKind.i64 (r19.length : Int)), v564]), (true, ow 3 v564 (List.map (Value.int IntKind.i64) l565))] → S_spec_InducedOn_j2 F r19 l565 = some r → K24 a w := by
        intro l565 v564 a w hS hM hF
        unfold S_spec_InducedOn_j2 at hF
        refine hK24 _ _ ?_
        refine wp_seq_k fun K566 hK566 => ?_
        refine wp_region_lit ?_
        refine st_val hS rfl rfl (by decide) (rv_load_agg (hS.ev rfl) ty_ag_27 (hM.get 2 rfl) ty_sz_27) fun a hS => ?_
        obtain ⟨w, hr, hM⟩ := hM.st_agg (us := [(Value.int IntKind.i64 (r19.length : Int)), v564]) (ρ := a.eval) (dst := none) (ty := _) (pos := _) (af := _) (gd := _) (x := .tmp 4) (y := .tmp 57) (hS.ev rfl) (hS.ev rfl) ty_sz_27 (all1_cons rfl (all1_cons (rd_one (rd_of_ow (hM.get 3 rfl))) all1_nil)) rfl
        refine st_unit hS rfl rfl hr ?_
        refine st_val hS rfl rfl (by decide) (rv_assign (hS.ev rfl)) fun a hS => ?_
        refine wpList_nil ?_
        refine hK566 _ _ ?_
        refine wp_ret ?_
        cases hF
        exact hQr _ _ (r_cc hS rfl ⟨_, rfl, run_loadAgg ty_ag_27 (hM.get 0 rfl) ty_sz_27⟩ rfl ⟨v564, rfl, hM.pick [3] (by decide) rfl⟩)
      refine wp_seq_k fun K567 hK567 => ?_
      refine wp_region_lit ?_
      refine st_val hS rfl rfl (by decide) (rv_assign (hS.ev rfl)) fun a hS => ?_
      refine wpList_nil ?_
      refine hK567 _ _ ?_
      refine wp_block ?_
      obtain ⟨lb3, hl3, hF3⟩ := bind_some hF
      refine wp_loop_sh (fun s => S_spec_InducedOn_l3 F p0_g_Size p0_g_Rows r19 s.1 s.2) (fun s a w => ∃ (v747 : Value), Sl 58 [(2, (fdp b4 0)), (4, (fdp b5 0)), (6, v20), (7, (fdp b23 0)), (8, (Value.int IntKind.i64 s.2))] a ∧ Mem Nob w0 w [(true, bx b4 27 [(Value.int IntKind.i64 p0_g_Size), p0_g_Rowsv]), (false, rd p0_g_Rowsv (List.map (Value.int IntKind.i64) p0_g_Rows)), (true, bx b5 27 [(Value.int IntKind.i64 0), (Value.slice none 0 0)]), (true, ow 3 (Value.slice none 0 0) (List.map (Value.int IntKind.i64) ([] : List (Int)))), (true, ow 3 v20 (List.map (Value.int IntKind.i64) r19)), (true, bx b23 27 [(Value.int IntKind.i64 (r19.length : Int)), v747]), (true, ow 3 v747 (List.map (Value.int IntKind.i64) s.1))]) hl3 ⟨(Value.slice none 0 0), (hS.sub (sub_cons rfl (sub_cons rfl (sub_cons rfl (sub_cons rfl (sub_cons rfl sub_nil)))))), (hM.pick [4, 5, 6, 7, 3, 1, 0] (by decide) rfl)⟩ ?_
      rintro K3 ⟨l748, x749⟩ a w res3 ⟨v747, hS, hM⟩ hF hN3 hX3
      have hF : S_spec_InducedOn_l3 F p0_g_Size p0_g_Rows r19 l748 x749 = some res3 := hF
      have hS : Sl 58 [(2, (fdp b4 0)), (4, (fdp b5 0)), (6, v20), (7, (fdp b23 0)), (8, (Value.int IntKind.i64 x749))] a := hS
      have hM : Mem Nob w0 w [(true, bx b4 27 [(Value.int IntKind.i64 p0_g_Size), p0_g_Rowsv]), (false, rd p0_g_Rowsv (List.map (Value.int IntKind.i64) p0_g_Rows)), (true, bx b5 27 [(Value.int IntKind.i64 0), (Value.slice none 0 0)]), (true, ow 3 (Value.slice none 0 0) (List.map (Value.int IntKind.i64) ([] : List (Int)))), (true, ow 3 v20 (List.map (Value.int IntKind.i64) r19)), (true, bx b23 27 [(Value.int IntKind.i64 (r19.length : Int)), v747]), (true, ow 3 v747 (List.map (Value.int IntKind.i64) l748))] := hM
      unfold S_spec_InducedOn_l3 at hF
      refine wp_seq_k fun K928 hK928 => ?_
      refine wp_seq_k fun K930 hK930 => ?_
      refine wp_region_lit ?_
      refine st_val hS rfl rfl (by decide) (rv_move (hS.ev rfl)) fun a hS => ?_
      refine st_val hS rfl rfl (by decide) (rv_move (hS.ev rfl)) fun a hS => ?_
      refine st_val hS rfl rfl (by decide) (rv_len_rowM Try.underlying22 (hS.ev rfl) (rd_of_ow (hM.get 4 rfl))) fun a hS => ?_
      refine st_val hS rfl rfl (by decide) (rv_lss (hS.ev rfl) (hS.ev rfl)) fun a hS => ?_
      refine wpList_nil ?_
      refine hK930 _ _ ?_
      rcases ite_some hF with ⟨hc, hF⟩ | ⟨hc, hF⟩
      · refine cond_t hS rfl hc ?_
        refine wp_skip ?_
        refine hK928 _ _ ?_
        refine wp_seq_k fun K931 hK931 => ?_
        refine wp_block ?_
        refine wp_seq_k fun K1019 hK1019 => ?_
        refine wp_region_lit ?_
        refine st_val hS rfl rfl (by decide) (rv_assign (hS.ev rfl)) fun a hS => ?_
        refine wpList_nil ?_
        refine hK1019 _ _ ?_
        refine wp_seq_k fun K1020 hK1020 => ?_
        have hJ4 : ∀ (x1062 : Int) (a : Act) (w : World), Sl 58 [(2, (fdp b4 0)), (4, (fdp b5 0)), (6, v20), (7, (fdp b23 0)), (8, (Value.int IntKind.i64 x749)), (9, (Value.int IntKind.i64 x1062))] a → Mem Nob w0 w [(true, bx b4 27 [(Value.int IntKind.i64 p0_g_Size), p0_g_Rowsv]), (false, rd p0_g_Rowsv (List.map (Value.int IntKind.i64) p0_g_Rows)), (true, bx b5 27 [(Value.int IntKind.i64 0), (Value.slice none 0 0)]), (true, ow 3 (Value.slice none 0 0) (List.map (Value.int IntKind.i64) ([] : List (Int)))), (true, ow 3 v20 (List.map (Value.int IntKind.i64) r19)), (true, bx b23 27 [(Value.int IntKind.i64 (r19.length : Int)), v747]), (true, ow 3 v747 (List.map (Value.int IntKind.i64) l748))] → S_spec_InducedOn_j4 F l748 x749 x1062 = some res3 → K1020 a w := by
          intro x1062 a w hS hM hF
          unfold S_spec_InducedOn_j4 at hF
          refine hK1020 _ _ ?_
          refine wp_region_lit ?_
          refine st_val hS rfl rfl (by decide) (rv_fieldAddr ty_fd_27_1 (hS.ev rfl)) fun a hS => ?_
          refine st_val hS rfl rfl (by decide) (rv_load_bx (hS.ev rfl) ty_ag_22 (hM.get 5 rfl) rfl) fun a hS => ?_
          refine st_val hS rfl rfl (by decide) (rv_move (hS.ev rfl)) fun a hS => ?_
          obtain ⟨v1063, w, hr, hM⟩ := Mem.litE (f := (Value.int IntKind.i64)) (dst := some 54) (ty := _) (pos := _) (af := _) (gd := _) (ps := [(0, .tmp 53)]) ([x1062] : List (Int)) i64_one hM hS Try.underlying22 ty_el_3 rfl rfl rfl rfl
          refine st_val hS rfl rfl (by decide) hr fun a hS => ?_
          obtain ⟨_, hx, hF⟩ := bind_some hF
          have hM := hM.pick [7, 0, 1, 2, 3, 4, 5, 6] (by decide) rfl
          obtain ⟨v1064, w, hr, hM⟩ := Mem.appE (f := (Value.int IntKind.i64)) (S := _) (R := [(true, ow 3 v1063 (List.map (Value.int IntKind.i64) ([x1062] : List (Int)))), (true, bx b4 27 [(Value.int IntKind.i64 p0_g_Size), p0_g_Rowsv]), (false, rd p0_g_Rowsv (List.map (Value.int IntKind.i64) p0_g_Rows)), (true, bx b5 27 [(Value.int IntKind.i64 0), (Value.slice none 0 0)]), (true, ow 3 (Value.slice none 0 0) (List.map (Value.int IntKind.i64) ([] : List (Int)))), (true, ow 3 v20 (List.map (Value.int IntKind.i64) r19)), (true, bx b23 27 [(Value.int IntKind.i64 (r19.length : Int)), v747])]) (ρ := a.eval) (dst := some 55) (ty := _) (pos := _) (af := _) (gd := _) (x := .tmp 52) (y := .tmp 54) i64_one hM Try.underlying22 ty_el_3 rfl (by decide) (hS.ev rfl) (hS.ev rfl) (rd_of_ow (hM.get 1 rfl)) (catO_some hx)
          refine st_val hS rfl rfl (by decide) hr fun a hS => ?_
          refine st_val hS rfl rfl (by decide) (rv_fieldAddr ty_fd_27_1 (hS.ev rfl)) fun a hS => ?_
          have hM := hM.pick [7, 0, 1, 2, 3, 4, 5, 6] (by decide) rfl
          obtain ⟨w, hr, hM⟩ := hM.st_bx1 (n := 1) (cs' := [(Value.int IntKind.i64 (r19.length : Int)), v1064]) (ρ := a.eval) (dst := none) (ty := _) (pos := _) (af := _) (gd := _) (x := .tmp 56) (y := .tmp 55) (hS.ev rfl) (hS.ev rfl) ty_sz_22 (rd_one (rd_of_ow (hM.get 1 rfl))) rfl rfl
          refine st_unit hS rfl rfl hr ?_
          refine wpList_nil ?_
          refine hK931 _ _ ?_
          refine wp_region_lit ?_
          refine st_val hS rfl rfl (by decide) (rv_move (hS.ev rfl)) fun a hS => ?_
          refine st_val hS rfl rfl (by decide) (rv_add (hS.ev rfl) (hS.ev rfl)) fun a hS => ?_
          refine st_val hS rfl rfl (by decide) (rv_assign (hS.ev rfl)) fun a hS => ?_
          refine wpList_nil ?_
          cases hF
          exact hN3 _ _ _ rfl ⟨v1064, (hS.sub (sub_cons rfl (sub_cons rfl (sub_cons rfl (sub_cons rfl (sub_cons rfl sub_nil)))))), (hM.pick [3, 4, 5, 6, 7, 0, 1] (by decide) rfl)⟩
        refine wp_seq_k fun K1065 hK1065 => ?_
        refine wp_region_lit ?_
        refine st_val hS rfl rfl (by decide) (rv_assign (hS.ev rfl)) fun a hS => ?_
        refine wpList_nil ?_
        refine hK1065 _ _ ?_
        refine wp_block ?_
        obtain ⟨lb5, hl5, hF5⟩ := bind_some hF
        refine wp_loop_sh (fun s => S_spec_InducedOn_l5 F p0_g_Size p0_g_Rows r19 x749 s.1 s.2) (fun s a w => Sl 58 [(2, (fdp b4 0)), (4, (fdp b5 0)), (6, v20), (7, (fdp b23 0)), (8, (Value.int IntKind.i64 x749)), (9, (Value.int IntKind.i64 s.1)), (10, (Value.int IntKind.i64 s.2))] a ∧ Mem Nob w0 w [(true, bx b4 27 [(Value.int IntKind.i64 p0_g_Size), p0_g_Rowsv]), (false, rd p0_g_Rowsv (List.map (Value.int IntKind.i64) p0_g_Rows)), (true, bx b5 27 [(Value.int IntKind.i64 0), (Value.slice none 0 0)]), (true, ow 3 (Value.slice none 0 0) (List.map (Value.int IntKind.i64) ([] : List (Int)))), (true, ow 3 v20 (List.map (Value.int IntKind.i64) r19)), (true, bx b23 27 [(Value.int IntKind.i64 (r19.length : Int)), v747]), (true, ow 3 v747 (List.map (Value.int IntKind.i64) l748))]) hl5 ⟨(hS.sub (sub_cons rfl (sub_cons rfl (sub_cons rfl (sub_cons rfl (sub_cons rfl (sub_cons rfl (sub_cons rfl sub_nil)))))))), (hM.pick [0, 1, 2, 3, 4, 5, 6] (by decide) rfl)⟩ ?_
        rintro K5 ⟨x1066, x1067⟩ a w res5 ⟨hS, hM⟩ hF hN5 hX5
        have hF : S_spec_InducedOn_l5 F p0_g_Size p0_g_Rows r19 x749 x1066 x1067 = some res5 := hF
        have hS : Sl 58 [(2, (fdp b4 0)), (4, (fdp b5 0)), (6, v20), (7, (fdp b23 0)), (8, (Value.int IntKind.i64 x749)), (9, (Value.int IntKind.i64 x1066)), (10, (Value.int IntKind.i64 x1067))] a := hS
        have hM : Mem Nob w0 w [(true, bx b4 27 [(Value.int IntKind.i64 p0_g_Size), p0_g_Rowsv]), (false, rd p0_g_Rowsv (List.map (Value.int IntKind.i64) p0_g_Rows)), (true, bx b5 27 [(Value.int IntKind.i64 0), (Value.slice none 0 0)]), (true, ow 3 (Value.slice none 0 0) (List.map (Value.int IntKind.i64) ([] : List (Int)))), (true, ow 3 v20 (List.map (Value.int IntKind.i64) r19)), (true, bx b23 27 [(Value.int IntKind.i64 (r19.length : Int)), v747]), (true, ow 3 v747 (List.map (Value.int IntKind.i64) l748))] := hM
        unfold S_spec_InducedOn_l5 at hF
        refine wp_seq_k fun K1087 hK1087 => ?_
        refine wp_seq_k fun K1089 hK1089 => ?_
        refine wp_region_lit ?_
        refine st_val hS rfl rfl (by decide) (rv_move (hS.ev rfl)) fun a hS => ?_
        refine st_val hS rfl rfl (by decide) (rv_move (hS.ev rfl)) fun a hS => ?_
        refine st_val hS rfl rfl (by decide) (rv_len_rowM Try.underlying22 (hS.ev rfl) (rd_of_ow (hM.get 4 rfl))) fun a hS => ?_
        refine st_val hS rfl rfl (by decide) (rv_lss (hS.ev rfl) (hS.ev rfl)) fun a hS => ?_
        refine wpList_nil ?_
        refine hK1089 _ _ ?_
        rcases ite_some hF with ⟨hc, hF⟩ | ⟨hc, hF⟩
        · refine cond_t hS rfl hc ?_
          refine wp_skip ?_
          refine hK1087 _ _ ?_
          refine wp_seq_k fun K1090 hK1090 => ?_
          have hJ6 : ∀ (x1098 : Int) (a : Act) (w : World), Sl 58 [(2, (fdp b4 0)), (4, (fdp b5 0)), (6, v20), (7, (fdp b23 0)), (8, (Value.int IntKind.i64 x749)), (9, (Value.int IntKind.i64 x1098)), (10, (Value.int IntKind.i64 x1067))] a → Mem Nob w0 w [(true, bx b4 27 [(Value.int IntKind.i64 p0_g_Size), p0_g_Rowsv]), (false, rd p0_g_Rowsv (List.map (Value.int IntKind.i64) p0_g_Rows)), (true, bx b5 27 [(Value.int IntKind.i64 0), (Value.slice none 0 0)]), (true, ow 3 (Value.slice none 0 0) (List.map (Value.int IntKind.i64) ([] : List (Int)))), (true, ow 3 v20 (List.map (Value.int IntKind.i64) r19)), (true, bx b23 27 [(Value.int IntKind.i64 (r19.length : Int)), v747]), (true, ow 3 v747 (List.map (Value.int IntKind.i64) l748))] → S_spec_InducedOn_j6 F x1067 x1098 = some res5 → K1090 a w := by
            intro x1098 a w hS hM hF
            unfold S_spec_InducedOn_j6 at hF
            refine hK1090 _ _ ?_
            refine wp_region_lit ?_
            refine st_val hS rfl rfl (by decide) (rv_move (hS.ev rfl)) fun a hS => ?_
            refine st_val hS rfl rfl (by decide) (rv_add (hS.ev rfl) (hS.ev rfl)) fun a hS => ?_
            refine st_val hS rfl rfl (by decide) (rv_assign (hS.ev rfl)) fun a hS => ?_
            refine wpList_nil ?_
            cases hF
            exact hN5 _ _ _ rfl ⟨(hS.sub (sub_cons rfl (sub_cons rfl (sub_cons rfl (sub_cons rfl (sub_cons rfl (sub_cons rfl (sub_cons rfl sub_nil)))))))), (hM.pick [0, 1, 2, 3, 4, 5, 6] (by decide) rfl)⟩
          refine wp_block ?_
          refine wp_seq_k fun K1099 hK1099 => ?_
          refine an_start Nob ty_mixed fun w hf => ?_
          have hM := hM.fra hf
          have hB := hM
          have hM := hB.reg0
          refine an_take hS (i := 0) rfl (by kernel_rfl) (by kernel_rfl) (by kernel_rfl) rfl (by decide) (fun c a a' w hd h => hQp c a a' w hd h) rfl (fun w' hC' => (rv_load_agg (hS.ev rfl) ty_ag_27 ((hB.fra hC').get 0 rfl) ty_sz_27)) hM.fr fun a hS => ?_
          refine an_take hS (i := 1) rfl (by kernel_rfl) (by kernel_rfl) (by kernel_rfl) rfl (by decide) (fun c a a' w hd h => hQp c a a' w hd h) rfl (fun w' hC' => (rv_move (hS.ev rfl))) hM.fr fun a hS => ?_
          refine an_take hS (i := 2) rfl (by kernel_rfl) (by kernel_rfl) (by kernel_rfl) rfl (by decide) (fun c a a' w hd h => hQp c a a' w hd h) rfl (fun w' hC' => (rv_move (hS.ev rfl))) hM.fr fun a hS => ?_
          obtain ⟨x1103, hx, hF⟩ := bind_some hF
          obtain ⟨hi0, hi1, hex1103⟩ := idxL_some hx
          refine an_take hS (i := 3) rfl (by kernel_rfl) (by kernel_rfl) (by kernel_rfl) rfl (by decide) (fun c a a' w hd h => hQp c a a' w hd h) rfl (fun w' hC' => (rv_indexAddr Try.underlying22 ty_el_3 (hS.ev rfl) (hS.ev rfl) (rd_of_ow (hM.get 4 rfl)) hi0 (map_len hi1))) hM.fr fun a hS => ?_
          refine an_take hS (i := 4) rfl (by kernel_rfl) (by kernel_rfl) (by kernel_rfl) rfl (by decide) (fun c a a' w hd h => hQp c a a' w hd h) rfl (fun w' hC' => (rv_load_el (hS.ev rfl) ty_ag_3 (rd_of_ow ((hB.fra hC').get 4 rfl)) (mget hex1103))) hM.fr fun a hS => ?_
          refine an_take hS (i := 5) rfl (by kernel_rfl) (by kernel_rfl) (by kernel_rfl) rfl (by decide) (fun c a a' w hd h => hQp c a a' w hd h) rfl (fun w' hC' => (rv_move (hS.ev rfl))) hM.fr fun a hS => ?_
          refine an_take hS (i := 6) rfl (by kernel_rfl) (by kernel_rfl) (by kernel_rfl) rfl (by decide) (fun c a a' w hd h => hQp c a a' w hd h) rfl (fun w' hC' => (rv_move (hS.ev rfl))) hM.fr fun a hS => ?_
          obtain ⟨x1104, hx, hF⟩ := bind_some hF
          obtain ⟨hi0, hi1, hex1104⟩ := idxL_some hx
          refine an_take hS (i := 7) rfl (by kernel_rfl) (by kernel_rfl) (by kernel_rfl) rfl (by decide) (fun c a a' w hd h => hQp c a a' w hd h) rfl (fun w' hC' => (rv_indexAddr Try.underlying22 ty_el_3 (hS.ev rfl) (hS.ev rfl) (rd_of_ow (hM.get 4 rfl)) hi0 (map_len hi1))) hM.fr fun a hS => ?_
          refine an_take hS (i := 8) rfl (by kernel_rfl) (by kernel_rfl) (by kernel_rfl) rfl (by decide) (fun c a a' w hd h => hQp c a a' w hd h) rfl (fun w' hC' => (rv_load_el (hS.ev rfl) ty_ag_3 (rd_of_ow ((hB.fra hC').get 4 rfl)) (mget hex1104))) hM.fr fun a hS => ?_
          obtain ⟨r1105, hr, hF⟩ := bind_some hF
          refine an_one hS (i := 9) rfl (by kernel_rfl) rfl ?_
          refine wp_call hS rfl rfl (by decide) fn_ok_62 rfl (c_spec_l2Edge F p0_g_Size p0_g_Rows x1103 x1104 p0_g_Rowsv hr _ (hM.get 1 rfl)) fun v w a hK hS => ?_
          obtain ⟨rfl, hN⟩ := hK
          have hM := hM.fra hN.fr
          refine ⟨hM.fr, ?_⟩
          refine an_done (by kernel_rfl) ?_
          have hN := hM.pick [] (by decide) rfl
          have hM := Mem.callo (A := []) (B := [(true, bx b4 27 [(Value.int IntKind.i64 p0_g_Size), p0_g_Rowsv]), (false, rd p0_g_Rowsv (List.map (Value.int IntKind.i64) p0_g_Rows)), (true, bx b5 27 [(Value.int IntKind.i64 0), (Value.slice none 0 0)]), (true, ow 3 (Value.slice none 0 0) (List.map (Value.int IntKind.i64) ([] : List (Int)))), (true, ow 3 v20 (List.map (Value.int IntKind.i64) r19)), (true, bx b23 27 [(Value.int IntKind.i64 (r19.length : Int)), v747]), (true, ow 3 v747 (List.map (Value.int IntKind.i64) l748))]) hB rfl (hN.memS fun _ h => h.elim) rfl
          refine hK1099 _ _ ?_
          rcases ite_some hF with ⟨hc, hF⟩ | ⟨hc, hF⟩
          · refine cond_t hS rfl hc ?_
            refine wp_region_lit ?_
            refine st_val hS rfl rfl (by decide) (rv_move (hS.ev rfl)) fun a hS => ?_
            refine st_val hS rfl rfl (by decide) (rv_move (hS.ev rfl)) fun a hS => ?_
            obtain ⟨_, hx, hF⟩ := bind_some hF
            have hi0 := nnO_some hx
            refine st_val hS rfl rfl (by decide) (rv_shl (hS.ev rfl) (hS.ev rfl) hi0) fun a hS => ?_
            refine st_val hS rfl rfl (by decide) (rv_add (hS.ev rfl) (hS.ev rfl)) fun a hS => ?_
            refine st_val hS rfl rfl (by decide) (rv_assign (hS.ev rfl)) fun a hS => ?_
            refine wpList_nil ?_
            exact hJ6 (IntKind.i64.wrap (x1066 + (shL 1 x1067))) _ _ (hS.sub (sub_cons rfl (sub_cons rfl (sub_cons rfl (sub_cons rfl (sub_cons rfl (sub_cons rfl (sub_cons rfl sub_nil)))))))) (hM.pick [0, 1, 2, 3, 4, 5, 6] (by decide) rfl) hF
          · refine cond_f hS rfl hc ?_
            refine wp_skip ?_
            exact hJ6 x1066 _ _ (hS.sub (sub_cons rfl (sub_cons rfl (sub_cons rfl (sub_cons rfl (sub_cons rfl (sub_cons rfl (sub_cons rfl sub_nil)))))))) (hM.pick [0, 1, 2, 3, 4, 5, 6] (by decide) rfl) hF
        · refine cond_f hS rfl hc ?_
          refine wp_exit ?_
          cases hF
          exact hJ4 x1066 _ _ (hS.sub (sub_cons rfl (sub_cons rfl (sub_cons rfl (sub_cons rfl (sub_cons rfl (sub_cons rfl sub_nil))))))) (hM.pick [0, 1, 2, 3, 4, 5, 6] (by decide) rfl) (by have e := hX5 _ rfl; subst e; exact hF5)
      · refine cond_f hS rfl hc ?_
        refine wp_exit ?_
        cases hF
        exact hJ2 l748 v747 _ _ (hS.sub (sub_cons rfl (sub_cons rfl sub_nil))) (hM.pick [2, 3, 5, 6] (by decide) rfl) (by have e := hX3 _ rfl; subst e; exact hF3)
  refine wp_region_lit ?_
  refine st_val hS rfl rfl (by decide) (rv_load_agg (hS.ev rfl) ty_ag_27 (hM.get 2 rfl) ty_sz_27) fun a hS => ?_
  refine st_val hS rfl rfl (by decide) (rv_move (hS.ev rfl)) fun a hS => ?_
  obtain ⟨r1106, hr, hF⟩ := bind_some hF
  refine st_wp hS rfl (wp_call hS rfl rfl (by decide) fn_ok_66 rfl (c_spec_IsSet F p0_g_Size p0_g_Rows p1_set p0_g_Rowsv hr _ (hM.get 3 rfl)) fun v w a hK hS => ?_)
  obtain ⟨rfl, hN⟩ := hK
  have hM := hM.fra hN.fr
  refine st_val hS rfl rfl (by decide) (rv_not (hS.ev rfl)) fun a hS => ?_
  refine st_val hS rfl rfl (by decide) (rv_move (hS.ev rfl)) fun a hS => ?_
  rcases ite_some hF with ⟨hc, hF⟩ | ⟨hc, hF⟩
  · have hS := hS.setb (t := 15) rfl hc
    refine st_skip hS rfl rfl (by decide) fun a hS => ?_
    refine st_skip hS rfl rfl (by decide) fun a hS => ?_
    refine st_val hS rfl rfl (by decide) (rv_pick_t (hS.ev rfl) (hS.ev rfl)) fun a hS => ?_
    refine wpList_nil ?_
    exact hJ1 true _ _ (hS.sub (sub_cons rfl (sub_cons rfl (sub_cons rfl (sub_cons rfl sub_nil))))) (hM.pick [2, 3, 1, 0] (by decide) rfl) hF
  · have hS := hS.setb (t := 15) rfl hc
    refine st_val hS rfl rfl (by decide) (rv_move (hS.ev rfl)) fun a hS => ?_
    refine st_val hS rfl rfl (by decide) (rv_eql (hS.ev rfl) (hS.ev rfl)) fun a hS => ?_
    refine st_val hS rfl rfl (by decide) (rv_pick_f (hS.ev rfl) (hS.ev rfl)) fun a hS => ?_
    refine wpList_nil ?_
    exact hJ1 (p1_set == 0) _ _ (hS.sub (sub_cons rfl (sub_cons rfl (sub_cons rfl (sub_cons rfl sub_nil))))) (hM.pick [2, 3, 1, 0] (by decide) rfl) hF


theorem c_impl_IsSet (F : Nat) (p0_g_Size : Int) (p0_g_Rows : List Int) (p1_set : Int) (p0_g_Rowsv : Value) {r : Bool} (hF : S_impl_IsSet F p0_g_Size p0_g_Rows p1_set = some r) (w0 : World) (h0 : RdRow w0 p0_g_Rowsv (List.map (Value.int IntKind.i64) p0_g_Rows)) :
    Calls Try.prog 68 [(Value.agg #[(Value.int IntKind.i64 p0_g_Size), p0_g_Rowsv]), (Value.int IntKind.i64 p1_set)].toArray w0 (retPost fun v w' => v = (Value.bool r) ∧ Mem Nob w0 w' []) := by
  have hM : Mem Nob w0 w0 [(false, rd p0_g_Rowsv (List.map (Value.int IntKind.i64) p0_g_Rows))] := (Mem.rcons (Mem.nil w0) h0 (by simp))
  refine enter2 Try.func68 rfl rfl rfl fun Q a hQr hQn hQp hS => ?_
  have hS : Sl 13 [(0, (Value.agg #[(Value.int IntKind.i64 p0_g_Size), p0_g_Rowsv])), (1, (Value.int IntKind.i64 p1_set))] a := hS
  unfold S_impl_IsSet at hF
  refine wp_seq_k fun K1 hK1 => ?_
  refine wp_region_lit ?_
  obtain ⟨b3, w, hr, hM⟩ := hM.boxE (ρ := a.eval) (dst := some 2) (ty := _) (pos := _) (af := _) (gd := _) (x := .tmp 0) (T := 27) [(Value.int IntKind.i64 p0_g_Size), p0_g_Rowsv] (hS.ev rfl) rfl
  refine st_val hS rfl rfl (by decide) hr fun a hS => ?_
  refine st_val hS rfl rfl (by decide) (rv_assign (hS.ev rfl)) fun a hS => ?_
  refine wpList_nil ?_
  refine hK1 _ _ ?_
  refine wp_seq_k fun K4 hK4 => ?_
  have hJ1 : ∀ (p8 : Bool) (a : Act) (w : World), Sl 13 [(4, (Value.bool p8))] a → Mem Nob w0 w [] → S_impl_IsSet_j1 F p8 = some r → K4 a w := by
    intro p8 a w hS hM hF
    unfold S_impl_IsSet_j1 at hF
    refine hK4 _ _ ?_
    refine wp_ret ?_
    cases hF
    exact hQr _ _ (r_1 hS rfl rfl ⟨rfl, hM.pick [] (by decide) rfl⟩)
  refine wp_region_lit ?_
  refine st_val hS rfl rfl (by decide) (rv_load_agg (hS.ev rfl) ty_ag_27 (hM.get 0 rfl) ty_sz_27) fun a hS => ?_
  obtain ⟨r9, hr, hF⟩ := bind_some hF
  refine st_wp hS rfl (wp_call hS rfl rfl (by decide) fn_ok_54 rfl (c_impl_IsGraph F p0_g_Size p0_g_Rows p0_g_Rowsv hr _ (hM.get 1 rfl)) fun v w a hK hS => ?_)
  obtain ⟨rfl, hN⟩ := hK
  have hM := hM.fra hN.fr
  refine st_val hS rfl rfl (by decide) (rv_move (hS.ev rfl)) fun a hS => ?_
  rcases ite_some hF with ⟨hc, hF⟩ | ⟨hc, hF⟩
  · have hS := hS.setb (t := 7) rfl hc
    refine st_val hS rfl rfl (by decide) (rv_move (hS.ev rfl)) fun a hS => ?_
    refine st_val hS rfl rfl (by decide) (rv_load_agg (hS.ev rfl) ty_ag_27 (hM.get 0 rfl) ty_sz_27) fun a hS => ?_
    obtain ⟨r10, hr, hF⟩ := bind_some hF
    refine st_wp hS rfl (wp_call hS rfl rfl (by decide) fn_ok_61 rfl (c_impl_all F p0_g_Size p0_g_Rows p0_g_Rowsv hr _ (hM.get 1 rfl)) fun v w a hK hS => ?_)
    obtain ⟨rfl, hN⟩ := hK
    have hM := hM.fra hN.fr
    obtain ⟨r11, hr, hF⟩ := bind_some hF
    refine st_wp hS rfl (wp_call hS rfl rfl (by decide) fn_ok_90 rfl (c_impl_within F p1_set 0 r10 hr _) fun v w a hK hS => ?_)
    obtain ⟨rfl, hN⟩ := hK
    have hM := hM.fra hN.fr
    refine st_val hS rfl rfl (by decide) (rv_pick_t (hS.ev rfl) (hS.ev rfl)) fun a hS => ?_
    refine st_val hS rfl rfl (by decide) (rv_assign (hS.ev rfl)) fun a hS => ?_
    refine wpList_nil ?_
    exact hJ1 r11 _ _ (hS.sub (sub_cons rfl sub_nil)) (hM.pick [] (by decide) rfl) hF
  · have hS := hS.setb (t := 7) rfl hc
    refine st_skip hS rfl rfl (by decide) fun a hS => ?_
    refine st_skip hS rfl rfl (by decide) fun a hS => ?_
    refine st_skip hS rfl rfl (by decide) fun a hS => ?_
    refine st_skip hS rfl rfl (by decide) fun a hS => ?_
    refine st_val hS rfl rfl (by decide) (rv_pick_f (hS.ev rfl) (hS.ev rfl)) fun a hS => ?_
    refine st_val hS rfl rfl (by decide) (rv_assign (hS.ev rfl)) fun a hS => ?_
    refine wpList_nil ?_
    exact hJ1 false _ _ (hS.sub (sub_cons rfl sub_nil)) (hM.pick [] (by decide) rfl) hF


theorem c_impl_induced (F : Nat) (p0_g_Size : Int) (p0_g_Rows : List Int) (p1_set : Int) (p0_g_Rowsv : Value) {r : Int × (List (Int))} (hF : S_impl_induced F p0_g_Size p0_g_Rows p1_set = some r) (w0 : World) (h0 : RdRow w0 p0_g_Rowsv (List.map (Value.int IntKind.i64) p0_g_Rows)) :
    Calls Try.prog 69 [(Value.agg #[(Value.int IntKind.i64 p0_g_Size), p0_g_Rowsv]), (Value.int IntKind.i64 p1_set)].toArray w0 (retPost fun v w' => ∃ v999, v = (Value.agg #[(Value.int IntKind.i64 r.1), v999]) ∧ Mem Nob w0 w' [(true, ow 3 v999 (List.map (Value.int IntKind.i64) r.2))]) := by
  have hM : Mem Nob w0 w0 [(false, rd p0_g_Rowsv (List.map (Value.int IntKind.i64) p0_g_Rows))] := (Mem.rcons (Mem.nil w0) h0 (by simp))
  refine enter2 Try.func69 rfl rfl rfl fun Q a hQr hQn hQp hS => ?_
  have hS : Sl 52 [(0, (Value.agg #[(Value.int IntKind.i64 p0_g_Size), p0_g_Rowsv])), (1, (Value.int IntKind.i64 p1_set))] a := hS
  unfold S_impl_induced at hF
  refine wp_seq_k fun K1 hK1 => ?_
  refine wp_region_lit ?_
  obtain ⟨b4, w, hr, hM⟩ := hM.boxE (ρ := a.eval) (dst := some 2) (ty := _) (pos := _) (af := _) (gd := _) (x := .tmp 0) (T := 27) [(Value.int IntKind.i64 p0_g_Size), p0_g_Rowsv] (hS.ev rfl) rfl
  refine st_val hS rfl rfl (by decide) hr fun a hS => ?_
  obtain ⟨b5, w, hr, hM⟩ := hM.allocE (ρ := a.eval) (dst := some 4) (ty := _) (pos := _) (af := _) (gd := _) (T := 27) (P := Try.prog) [(Value.int IntKind.i64 0), (Value.slice none 0 0)] ty_zr_27 rfl
  refine st_val hS rfl rfl (by decide) hr fun a hS => ?_
  have hM := hM.addNil 3
  refine wpList_nil ?_
  refine hK1 _ _ ?_
  refine wp_seq_k fun K6 hK6 => ?_
  refine wp_region_lit ?_
  refine st_val hS rfl rfl (by decide) (rv_move (hS.ev rfl)) fun a hS => ?_
  obtain ⟨r9, hr, hF⟩ := bind_some hF
  refine st_wp hS rfl (wp_call hS rfl rfl (by decide) fn_ok_64 rfl (c_impl_ListOf F p1_set hr _) fun v10 w a hK hS => ?_)
  have hN := hK
  have hM := hM.add hN rfl
  refine st_val hS rfl rfl (by decide) (rv_assign (hS.ev rfl)) fun a hS => ?_
  refine wpList_nil ?_
  refine hK6 _ _ ?_
  refine wp_seq_k fun K11 hK11 => ?_
  refine wp_region_lit ?_
  refine st_val hS rfl rfl (by decide) (rv_move (hS.ev rfl)) fun a hS => ?_
  refine st_val hS rfl rfl (by decide) (rv_len_rowM Try.underlying22 (hS.ev rfl) (rd_of_ow (hM.get 0 rfl))) fun a hS => ?_
  refine st_val hS rfl rfl (by decide) (rv_move (hS.ev rfl)) fun a hS => ?_
  refine st_val hS rfl rfl (by decide) (rv_len_rowM Try.underlying22 (hS.ev rfl) (rd_of_ow (hM.get 0 rfl))) fun a hS => ?_
  obtain ⟨_, hx, hF⟩ := bind_some hF
  obtain ⟨v14, w, hr, hM⟩ := hM.makeE (f := (Value.int IntKind.i64)) (c := (0 : Int)) (ρ := a.eval) (dst := some 17) (ty := _) (pos := _) (af := _) (gd := _) (x := .tmp 16) (y := .tmp 16) Try.underlying22 ty_el_3 i64_one (by decide) (hS.ev rfl) (hS.ev rfl) (mkO_some hx)
  refine st_val hS rfl rfl (by decide) hr fun a hS => ?_
  refine st_val hS rfl rfl (by decide) (rv_build hS ty_st_27 rfl (by simp) (ones_cons (by rw [hS.ev (v := (Value.int IntKind.i64 (r9.length : Int))) rfl]; rfl) (ones_cons (by rw [hS.ev (v := v14) rfl]; exact rd_one (rd_of_ow (hM.get 0 rfl))) ones_nil))) fun a hS => ?_
  obtain ⟨b15, w, hr, hM⟩ := hM.allocE (ρ := a.eval) (dst := some 6) (ty := _) (pos := _) (af := _) (gd := _) (T := 27) (P := Try.prog) [(Value.int IntKind.i64 0), (Value.slice none 0 0)] ty_zr_27 rfl
  refine st_val hS rfl rfl (by decide) hr fun a hS => ?_
  have hM := hM.addNil 3
  have hM := hM.pick [1, 0, 2, 3, 4, 5, 6, 7] (by decide) rfl
  obtain ⟨w, hr, hM⟩ := hM.st_agg (us := [(Value.int IntKind.i64 (r9.length : Int)), v14]) (ρ := a.eval) (dst := none) (ty := _) (pos := _) (af := _) (gd := _) (x := .tmp 6) (y := .tmp 18) (hS.ev rfl) (hS.ev rfl) ty_sz_27 (all1_cons rfl (all1_cons (rd_one (rd_of_ow (hM.get 2 rfl))) all1_nil)) rfl
  refine st_unit hS rfl rfl hr ?_
  refine wpList_nil ?_
  refine hK11 _ _ ?_
  refine wp_seq_k fun K16 hK16 => ?_
  have hJ1 : ∀ (l507 : List Int) (a : Act) (w : World), Sl 52 [(4, (fdp b5 0)), (6, (fdp b15 0))] a → Mem Nob w0 w [(true, bx b5 27 [(Value.int IntKind.i64 0), (Value.slice none 0 0)]), (true, ow 3 (Value.slice none 0 0) (List.map (Value.int IntKind.i64) ([] : List (Int)))), (true, bx b15 27 [(Value.int IntKind.i64 (r9.length : Int)), v14]), (true, ow 3 v14 (List.map (Value.int IntKind.i64) l507))] → S_impl_induced_j1 F r9 l507 = some r → K16 a w := by
    intro l507 a w hS hM hF
    unfold S_impl_induced_j1 at hF
    refine hK16 _ _ ?_
    refine wp_seq_k fun K508 hK508 => ?_
    refine wp_region_lit ?_
    refine st_val hS rfl rfl (by decide) (rv_load_agg (hS.ev rfl) ty_ag_27 (hM.get 2 rfl) ty_sz_27) fun a hS => ?_
    obtain ⟨w, hr, hM⟩ := hM.st_agg (us := [(Value.int IntKind.i64 (r9.length : Int)), v14]) (ρ := a.eval) (dst := none) (ty := _) (pos := _) (af := _) (gd := _) (x := .tmp 4) (y := .tmp 51) (hS.ev rfl) (hS.ev rfl) ty_sz_27 (all1_cons rfl (all1_cons (rd_one (rd_of_ow (hM.get 3 rfl))) all1_nil)) rfl
    refine st_unit hS rfl rfl hr ?_
    refine wpList_nil ?_
    refine hK508 _ _ ?_
    refine wp_ret ?_
    cases hF
    exact hQr _ _ (r_c hS rfl ⟨_, rfl, run_loadAgg ty_ag_27 (hM.get 0 rfl) ty_sz_27⟩ ⟨v14, rfl, hM.pick [3] (by decide) rfl⟩)
  refine wp_seq_k fun K509 hK509 => ?_
  refine wp_region_lit ?_
  refine st_val hS rfl rfl (by decide) (rv_move (hS.ev rfl)) fun a hS => ?_
  refine st_val hS rfl rfl (by decide) (rv_len_rowM Try.underlying22 (hS.ev rfl) (rd_of_ow (hM.get 3 rfl))) fun a hS => ?_
  refine st_val hS rfl rfl (by decide) (rv_move (hS.ev rfl)) fun a hS => ?_
  refine wpList_nil ?_
  refine hK509 _ _ ?_
  refine wp_block ?_
  obtain ⟨lb2, hl2, hF2⟩ := bind_some hF
  refine wp_loop_sh (fun s => S_impl_induced_l2 F p0_g_Rows r9 s.1 s.2) (fun s a w => Sl 52 [(2, (fdp b4 0)), (4, (fdp b5 0)), (5, v10), (6, (fdp b15 0)), (19, v10), (20, (Value.int IntKind.i64 (r9.length : Int))), (21, (Value.int IntKind.i64 s.2))] a ∧ Mem Nob w0 w [(true, bx b4 27 [(Value.int IntKind.i64 p0_g_Size), p0_g_Rowsv]), (false, rd p0_g_Rowsv (List.map (Value.int IntKind.i64) p0_g_Rows)), (true, bx b5 27 [(Value.int IntKind.i64 0), (Value.slice none 0 0)]), (true, ow 3 (Value.slice none 0 0) (List.map (Value.int IntKind.i64) ([] : List (Int)))), (true, ow 3 v10 (List.map (Value.int IntKind.i64) r9)), (true, bx b15 27 [(Value.int IntKind.i64 (r9.length : Int)), v14]), (true, ow 3 v14 (List.map (Value.int IntKind.i64) s.1))]) hl2 ⟨(hS.sub (sub_cons rfl (sub_cons rfl (sub_cons rfl (sub_cons rfl (sub_cons rfl (sub_cons rfl (sub_cons rfl sub_nil)))))))), (hM.pick [6, 7, 5, 4, 3, 0, 2] (by decide) rfl)⟩ ?_
  rintro K2 ⟨l673, x674⟩ a w res2 ⟨hS, hM⟩ hF hN2 hX2
  have hF : S_impl_induced_l2 F p0_g_Rows r9 l673 x674 = some res2 := hF
  have hS : Sl 52 [(2, (fdp b4 0)), (4, (fdp b5 0)), (5, v10), (6, (fdp b15 0)), (19, v10), (20, (Value.int IntKind.i64 (r9.length : Int))), (21, (Value.int IntKind.i64 x674))] a := hS
  have hM : Mem Nob w0 w [(true, bx b4 27 [(Value.int IntKind.i64 p0_g_Size), p0_g_Rowsv]), (false, rd p0_g_Rowsv (List.map (Value.int IntKind.i64) p0_g_Rows)), (true, bx b5 27 [(Value.int IntKind.i64 0), (Value.slice none 0 0)]), (true, ow 3 (Value.slice none 0 0) (List.map (Value.int IntKind.i64) ([] : List (Int)))), (true, ow 3 v10 (List.map (Value.int IntKind.i64) r9)), (true, bx b15 27 [(Value.int IntKind.i64 (r9.length : Int)), v14]), (true, ow 3 v14 (List.map (Value.int IntKind.i64) l673))] := hM
  unfold S_impl_induced_l2 at hF
  refine wp_seq_k fun K837 hK837 => ?_
  refine wp_region_lit ?_
  refine st_val hS rfl rfl (by decide) (rv_lss (hS.ev rfl) (hS.ev rfl)) fun a hS => ?_
  refine wpList_nil ?_
  refine hK837 _ _ ?_
  refine wp_seq_k fun K838 hK838 => ?_
  rcases ite_some hF with ⟨hc, hF⟩ | ⟨hc, hF⟩
  · refine cond_t hS rfl hc ?_
    refine wp_skip ?_
    refine hK838 _ _ ?_
    refine wp_seq_k fun K839 hK839 => ?_
    have hJ3 : ∀ (l919 : List Int) (a : Act) (w : World), Sl 52 [(2, (fdp b4 0)), (4, (fdp b5 0)), (5, v10), (6, (fdp b15 0)), (19, v10), (20, (Value.int IntKind.i64 (r9.length : Int))), (21, (Value.int IntKind.i64 x674))] a → Mem Nob w0 w [(true, bx b4 27 [(Value.int IntKind.i64 p0_g_Size), p0_g_Rowsv]), (false, rd p0_g_Rowsv (List.map (Value.int IntKind.i64) p0_g_Rows)), (true, bx b5 27 [(Value.int IntKind.i64 0), (Value.slice none 0 0)]), (true, ow 3 (Value.slice none 0 0) (List.map (Value.int IntKind.i64) ([] : List (Int)))), (true, ow 3 v10 (List.map (Value.int IntKind.i64) r9)), (true, bx b15 27 [(Value.int IntKind.i64 (r9.length : Int)), v14]), (true, ow 3 v14 (List.map (Value.int IntKind.i64) l919))] → S_impl_induced_j3 F x674 l919 = some res2 → K839 a w := by
      intro l919 a w hS hM hF
      unfold S_impl_induced_j3 at hF
      refine hK839 _ _ ?_
      refine wp_region_lit ?_
      refine st_val hS rfl rfl (by decide) (rv_add (hS.ev rfl) (hS.ev rfl)) fun a hS => ?_
      refine st_val hS rfl rfl (by decide) (rv_move (hS.ev rfl)) fun a hS => ?_
      refine wpList_nil ?_
      cases hF
      exact hN2 _ _ _ rfl ⟨(hS.sub (sub_cons rfl (sub_cons rfl (sub_cons rfl (sub_cons rfl (sub_cons rfl (sub_cons rfl (sub_cons rfl sub_nil)))))))), (hM.pick [0, 1, 2, 3, 4, 5, 6] (by decide) rfl)⟩
    refine wp_block ?_
    refine wp_seq_k fun K920 hK920 => ?_
    refine wp_region_lit ?_
    refine st_val hS rfl rfl (by decide) (rv_move (hS.ev rfl)) fun a hS => ?_
    obtain ⟨x922, hx, hF⟩ := bind_some hF
    obtain ⟨hi0, hi1, hex922⟩ := idxL_some hx
    refine st_val hS rfl rfl (by decide) (rv_indexAddr Try.underlying22 ty_el_3 (hS.ev rfl) (hS.ev rfl) (rd_of_ow (hM.get 4 rfl)) hi0 (map_len hi1)) fun a hS => ?_
    refine st_val hS rfl rfl (by decide) (rv_load_el (hS.ev rfl) ty_ag_3 (rd_of_ow (hM.get 4 rfl)) (mget hex922)) fun a hS => ?_
    refine st_val hS rfl rfl (by decide) (rv_assign (hS.ev rfl)) fun a hS => ?_
    refine st_val hS rfl rfl (by decide) (rv_assign (hS.ev rfl)) fun a hS => ?_
    refine wpList_nil ?_
    refine hK920 _ _ ?_
    refine wp_seq_k fun K923 hK923 => ?_
    refine wp_region_lit ?_
    refine st_val hS rfl rfl (by decide) (rv_move (hS.ev rfl)) fun a hS => ?_
    refine st_val hS rfl rfl (by decide) (rv_len_rowM Try.underlying22 (hS.ev rfl) (rd_of_ow (hM.get 4 rfl))) fun a hS => ?_
    refine st_val hS rfl rfl (by decide) (rv_move (hS.ev rfl)) fun a hS => ?_
    refine wpList_nil ?_
    refine hK923 _ _ ?_
    refine wp_block ?_
    obtain ⟨lb4, hl4, hF4⟩ := bind_some hF
    refine wp_loop_sh (fun s => S_impl_induced_l4 F p0_g_Rows r9 x674 x922 s.1 s.2) (fun s a w => Sl 52 [(2, (fdp b4 0)), (4, (fdp b5 0)), (5, v10), (6, (fdp b15 0)), (7, (Value.int IntKind.i64 x674)), (8, (Value.int IntKind.i64 x922)), (19, v10), (20, (Value.int IntKind.i64 (r9.length : Int))), (21, (Value.int IntKind.i64 x674)), (26, v10), (27, (Value.int IntKind.i64 (r9.length : Int))), (28, (Value.int IntKind.i64 s.2))] a ∧ Mem Nob w0 w [(true, bx b4 27 [(Value.int IntKind.i64 p0_g_Size), p0_g_Rowsv]), (false, rd p0_g_Rowsv (List.map (Value.int IntKind.i64) p0_g_Rows)), (true, bx b5 27 [(Value.int IntKind.i64 0), (Value.slice none 0 0)]), (true, ow 3 (Value.slice none 0 0) (List.map (Value.int IntKind.i64) ([] : List (Int)))), (true, ow 3 v10 (List.map (Value.int IntKind.i64) r9)), (true, bx b15 27 [(Value.int IntKind.i64 (r9.length : Int)), v14]), (true, ow 3 v14 (List.map (Value.int IntKind.i64) s.1))]) hl4 ⟨(hS.sub (sub_cons rfl (sub_cons rfl (sub_cons rfl (sub_cons rfl (sub_cons rfl (sub_cons rfl (sub_cons rfl (sub_cons rfl (sub_cons rfl (sub_cons rfl (sub_cons rfl (sub_cons rfl sub_nil))))))))))))), (hM.pick [0, 1, 2, 3, 4, 5, 6] (by decide) rfl)⟩ ?_
    rintro K4 ⟨l949, x950⟩ a w res4 ⟨hS, hM⟩ hF hN4 hX4
    have hF : S_impl_induced_l4 F p0_g_Rows r9 x674 x922 l949 x950 = some res4 := hF
    have hS : Sl 52 [(2, (fdp b4 0)), (4, (fdp b5 0)), (5, v10), (6, (fdp b15 0)), (7, (Value.int IntKind.i64 x674)), (8, (Value.int IntKind.i64 x922)), (19, v10), (20, (Value.int IntKind.i64 (r9.length : Int))), (21, (Value.int IntKind.i64 x674)), (26, v10), (27, (Value.int IntKind.i64 (r9.length : Int))), (28, (Value.int IntKind.i64 x950))] a := hS
    have hM : Mem Nob w0 w [(true, bx b4 27 [(Value.int IntKind.i64 p0_g_Size), p0_g_Rowsv]), (false, rd p0_g_Rowsv (List.map (Value.int IntKind.i64) p0_g_Rows)), (true, bx b5 27 [(Value.int IntKind.i64 0), (Value.slice none 0 0)]), (true, ow 3 (Value.slice none 0 0) (List.map (Value.int IntKind.i64) ([] : List (Int)))), (true, ow 3 v10 (List.map (Value.int IntKind.i64) r9)), (true, bx b15 27 [(Value.int IntKind.i64 (r9.length : Int)), v14]), (true, ow 3 v14 (List.map (Value.int IntKind.i64) l949))] := hM
    unfold S_impl_induced_l4 at hF
    refine wp_seq_k fun K975 hK975 => ?_
    refine wp_region_lit ?_
    refine st_val hS rfl rfl (by decide) (rv_lss (hS.ev rfl) (hS.ev rfl)) fun a hS => ?_
    refine wpList_nil ?_
    refine hK975 _ _ ?_
    refine wp_seq_k fun K976 hK976 => ?_
    rcases ite_some hF with ⟨hc, hF⟩ | ⟨hc, hF⟩
    · refine cond_t hS rfl hc ?_
      refine wp_skip ?_
      refine hK976 _ _ ?_
      refine wp_seq_k fun K977 hK977 => ?_
      have hJ5 : ∀ (l988 : List Int) (a : Act) (w : World), Sl 52 [(2, (fdp b4 0)), (4, (fdp b5 0)), (5, v10), (6, (fdp b15 0)), (7, (Value.int IntKind.i64 x674)), (8, (Value.int IntKind.i64 x922)), (19, v10), (20, (Value.int IntKind.i64 (r9.length : Int))), (21, (Value.int IntKind.i64 x674)), (26, v10), (27, (Value.int IntKind.i64 (r9.length : Int))), (28, (Value.int IntKind.i64 x950))] a → Mem Nob w0 w [(true, bx b4 27 [(Value.int IntKind.i64 p0_g_Size), p0_g_Rowsv]), (false, rd p0_g_Rowsv (List.map (Value.int IntKind.i64) p0_g_Rows)), (true, bx b5 27 [(Value.int IntKind.i64 0), (Value.slice none 0 0)]), (true, ow 3 (Value.slice none 0 0) (List.map (Value.int IntKind.i64) ([] : List (Int)))), (true, ow 3 v10 (List.map (Value.int IntKind.i64) r9)), (true, bx b15 27 [(Value.int IntKind.i64 (r9.length : Int)), v14]), (true, ow 3 v14 (List.map (Value.int IntKind.i64) l988))] → S_impl_induced_j5 F x950 l988 = some res4 → K977 a w := by
        intro l988 a w hS hM hF
        unfold S_impl_induced_j5 at hF
        refine hK977 _ _ ?_
        refine wp_region_lit ?_
        refine st_val hS rfl rfl (by decide) (rv_add (hS.ev rfl) (hS.ev rfl)) fun a hS => ?_
        refine st_val hS rfl rfl (by decide) (rv_move (hS.ev rfl)) fun a hS => ?_
        refine wpList_nil ?_
        cases hF
        exact hN4 _ _ _ rfl ⟨(hS.sub (sub_cons rfl (sub_cons rfl (sub_cons rfl (sub_cons rfl (sub_cons rfl (sub_cons rfl (sub_cons rfl (sub_cons rfl (sub_cons rfl (sub_cons rfl (sub_cons rfl (sub_cons rfl sub_nil))))))))))))), (hM.pick [0, 1, 2, 3, 4, 5, 6] (by decide) rfl)⟩
      refine wp_block ?_
      refine wp_seq_k fun K989 hK989 => ?_
      refine wp_region_lit ?_
      refine st_val hS rfl rfl (by decide) (rv_move (hS.ev rfl)) fun a hS => ?_
      obtain ⟨x991, hx, hF⟩ := bind_some hF
      obtain ⟨hi0, hi1, hex991⟩ := idxL_some hx
      refine st_val hS rfl rfl (by decide) (rv_indexAddr Try.underlying22 ty_el_3 (hS.ev rfl) (hS.ev rfl) (rd_of_ow (hM.get 4 rfl)) hi0 (map_len hi1)) fun a hS => ?_
      refine st_val hS rfl rfl (by decide) (rv_load_el (hS.ev rfl) ty_ag_3 (rd_of_ow (hM.get 4 rfl)) (mget hex991)) fun a hS => ?_
      refine st_val hS rfl rfl (by decide) (rv_assign (hS.ev rfl)) fun a hS => ?_
      refine st_val hS rfl rfl (by decide) (rv_assign (hS.ev rfl)) fun a hS => ?_
      refine wpList_nil ?_
      refine hK989 _ _ ?_
      refine wp_seq_k fun K992 hK992 => ?_
      refine wp_region_lit ?_
      refine st_val hS rfl rfl (by decide) (rv_fieldAddr ty_fd_27_1 (hS.ev rfl)) fun a hS => ?_
      refine st_val hS rfl rfl (by decide) (rv_load_bx (hS.ev rfl) ty_ag_22 (hM.get 0 rfl) rfl) fun a hS => ?_
      refine st_val hS rfl rfl (by decide) (rv_move (hS.ev rfl)) fun a hS => ?_
      obtain ⟨x995, hx, hF⟩ := bind_some hF
      obtain ⟨hi0, hi1, hex995⟩ := idxL_some hx
      refine st_val hS rfl rfl (by decide) (rv_indexAddr Try.underlying22 ty_el_3 (hS.ev rfl) (hS.ev rfl) (hM.get 1 rfl) hi0 (map_len hi1)) fun a hS => ?_
      refine st_val hS rfl rfl (by decide) (rv_load_el (hS.ev rfl) ty_ag_3 (hM.get 1 rfl) (mget hex995)) fun a hS => ?_
      refine st_val hS rfl rfl (by decide) (rv_move (hS.ev rfl)) fun a hS => ?_
      obtain ⟨r996, hr, hF⟩ := bind_some hF
      refine st_wp hS rfl (wp_call hS rfl rfl (by decide) fn_ok_88 rfl (c_impl_has F x995 x991 hr _) fun v w a hK hS => ?_)
      obtain ⟨rfl, hN⟩ := hK
      have hM := hM.fra hN.fr
      refine wpList_nil ?_
      refine hK992 _ _ ?_
      rcases ite_some hF with ⟨hc, hF⟩ | ⟨hc, hF⟩
      · refine cond_t hS rfl hc ?_
        have hM := hM.pick [6, 0, 1, 2, 3, 4, 5] (by decide) rfl
        refine an_start (feet [(true, ow 3 v14 (List.map (Value.int IntKind.i64) l949))]) ty_mixed fun w hf => ?_
        have hM := hM.fra hf
        have hB := hM
        have hM := hB.reg1 rfl
        refine an_take hS (i := 0) rfl (by kernel_rfl) (by kernel_rfl) (by kernel_rfl) rfl (by decide) (fun c a a' w hd h => hQp c a a' w hd h) rfl (fun w' hC' => (rv_fieldAddr ty_fd_27_1 (hS.ev rfl))) hM.fr fun a hS => ?_
        refine an_take hS (i := 1) rfl (by kernel_rfl) (by kernel_rfl) (by kernel_rfl) rfl (by decide) (fun c a a' w hd h => hQp c a a' w hd h) rfl (fun w' hC' => (rv_load_bx (hS.ev rfl) ty_ag_22 (hB.getF rfl 5 rfl hC') rfl)) hM.fr fun a hS => ?_
        refine an_take hS (i := 2) rfl (by kernel_rfl) (by kernel_rfl) (by kernel_rfl) rfl (by decide) (fun c a a' w hd h => hQp c a a' w hd h) rfl (fun w' hC' => (rv_move (hS.ev rfl))) hM.fr fun a hS => ?_
        obtain ⟨x997, hx, hF⟩ := bind_some hF
        obtain ⟨hi0, hi1, hex997⟩ := idxL_some hx
        refine an_take hS (i := 3) rfl (by kernel_rfl) (by kernel_rfl) (by kernel_rfl) rfl (by decide) (fun c a a' w hd h => hQp c a a' w hd h) rfl (fun w' hC' => (rv_indexAddr Try.underlying22 ty_el_3 (hS.ev rfl) (hS.ev rfl) (rd_of_ow (hM.get 0 rfl)) hi0 (map_len hi1))) hM.fr fun a hS => ?_
        refine an_take hS (i := 5) rfl (by kernel_rfl) (by kernel_rfl) (by kernel_rfl) rfl (by decide) (fun c a a' w hd h => hQp c a a' w hd h) rfl (fun w' hC' => (rv_move (hS.ev rfl))) hM.fr fun a hS => ?_
        obtain ⟨_, hx, hF⟩ := bind_some hF
        have hi0 := nnO_some hx
        refine an_take hS (i := 6) rfl (by kernel_rfl) (by kernel_rfl) (by kernel_rfl) rfl (by decide) (fun c a a' w hd h => hQp c a a' w hd h) rfl (fun w' hC' => (rv_shl (hS.ev rfl) (hS.ev rfl) hi0)) hM.fr fun a hS => ?_
        refine an_one hS (i := 4) rfl (by kernel_rfl) rfl ?_
        refine wp_val hS rfl (by decide) (rv_load_el (hS.ev rfl) ty_ag_3 (rd_of_ow (hM.get 0 rfl)) (mget hex997)) fun a hS => ⟨hM.fr, ?_⟩
        refine an_take hS (i := 7) rfl (by kernel_rfl) (by kernel_rfl) (by kernel_rfl) rfl (by decide) (fun c a a' w hd h => hQp c a a' w hd h) rfl (fun w' hC' => (rv_or (hS.ev rfl) (hS.ev rfl))) hM.fr fun a hS => ?_
        obtain ⟨x998, hx, hF⟩ := bind_some hF
        obtain ⟨hi0, hi1, hex998⟩ := idxL_some hx
        refine an_take hS (i := 8) rfl (by kernel_rfl) (by kernel_rfl) (by kernel_rfl) rfl (by decide) (fun c a a' w hd h => hQp c a a' w hd h) rfl (fun w' hC' => (rv_indexAddr Try.underlying22 ty_el_3 (hS.ev rfl) (hS.ev rfl) (rd_of_ow (hM.get 0 rfl)) hi0 (map_len hi1))) hM.fr fun a hS => ?_
        obtain ⟨w, hr, hM⟩ := hM.st_el (f := (Value.int IntKind.i64)) (n := x674.toNat) (c := (bOr x997 (shL 1 x950))) (ρ := a.eval) (dst := none) (ty := _) (pos := _) (af := _) (gd := _) (x := .tmp 48) (y := .tmp 47) i64_one (hS.ev rfl) (hS.ev rfl) ty_sz_3 (List.getElem?_eq_some_iff.1 hex998).1
        refine an_one hS (i := 9) rfl (by kernel_rfl) rfl ?_
        refine wp_unit hS rfl hr ⟨hM.fr, ?_⟩
        refine an_done (by kernel_rfl) ?_
        have hN := hM.pick [0] (by decide) rfl
        have hM := Mem.callo (A := [(true, ow 3 v14 (List.map (Value.int IntKind.i64) l949))]) (B := [(true, bx b4 27 [(Value.int IntKind.i64 p0_g_Size), p0_g_Rowsv]), (false, rd p0_g_Rowsv (List.map (Value.int IntKind.i64) p0_g_Rows)), (true, bx b5 27 [(Value.int IntKind.i64 0), (Value.slice none 0 0)]), (true, ow 3 (Value.slice none 0 0) (List.map (Value.int IntKind.i64) ([] : List (Int)))), (true, ow 3 v10 (List.map (Value.int IntKind.i64) r9)), (true, bx b15 27 [(Value.int IntKind.i64 (r9.length : Int)), v14])]) hB rfl (hN.memS fun _ h => h) rfl
        exact hJ5 (l949.set (x674.toNat) (bOr x997 (shL 1 x950))) _ _ (hS.sub (sub_cons rfl (sub_cons rfl (sub_cons rfl (sub_cons rfl (sub_cons rfl (sub_cons rfl (sub_cons rfl (sub_cons rfl (sub_cons rfl (sub_cons rfl (sub_cons rfl (sub_cons rfl sub_nil))))))))))))) (hM.pick [1, 2, 3, 4, 5, 6, 0] (by decide) rfl) hF
      · refine cond_f hS rfl hc ?_
        refine wp_skip ?_
        exact hJ5 l949 _ _ (hS.sub (sub_cons rfl (sub_cons rfl (sub_cons rfl (sub_cons rfl (sub_cons rfl (sub_cons rfl (sub_cons rfl (sub_cons rfl (sub_cons rfl (sub_cons rfl (sub_cons rfl (sub_cons rfl sub_nil))))))))))))) (hM.pick [0, 1, 2, 3, 4, 5, 6] (by decide) rfl) hF
    · refine cond_f hS rfl hc ?_
      refine wp_exit ?_
      cases hF
      exact hJ3 l949 _ _ (hS.sub (sub_cons rfl (sub_cons rfl (sub_cons rfl (sub_cons rfl (sub_cons rfl (sub_cons rfl (sub_cons rfl sub_nil)))))))) (hM.pick [0, 1, 2, 3, 4, 5, 6] (by decide) rfl) (by have e := hX4 _ rfl; subst e; exact hF4)
  · refine cond_f hS rfl hc ?_
    refine wp_exit ?_
    cases hF
    exact hJ1 l673 _ _ (hS.sub (sub_cons rfl (sub_cons rfl sub_nil))) (hM.pick [2, 3, 5, 6] (by decide) rfl) (by have e := hX2 _ rfl; subst e; exact hF2)


theorem c_impl_InducedOn (F : Nat) (p0_g_Size : Int) (p0_g_Rows : List Int) (p1_set : Int) (p0_g_Rowsv : Value) {r : Int × (List (Int)) × Bool} (hF : S_impl_InducedOn F p0_g_Size p0_g_Rows p1_set = some r) (w0 : World) (h0 : RdRow w0 p0_g_Rowsv (List.map (Value.int IntKind.i64) p0_g_Rows)) :
    Calls Try.prog 34 [(Value.agg #[(Value.int IntKind.i64 p0_g_Size), p0_g_Rowsv]), (Value.int IntKind.i64 p1_set)].toArray w0 (retPost fun v w' => ∃ v22, v = (Value.tuple #[(Value.agg #[(Value.int IntKind.i64 r.1), v22]), (Value.bool r.2.2)]) ∧ Mem Nob w0 w' [(true, ow 3 v22 (List.map (Value.int IntKind.i64) r.2.1))]) := by
  have hM : Mem Nob w0 w0 [(false, rd p0_g_Rowsv (List.map (Value.int IntKind.i64) p0_g_Rows))] := (Mem.rcons (Mem.nil w0) h0 (by simp))
  refine enter2 Try.func34 rfl rfl rfl fun Q a hQr hQn hQp hS => ?_
  have hS : Sl 18 [(0, (Value.agg #[(Value.int IntKind.i64 p0_g_Size), p0_g_Rowsv])), (1, (Value.int IntKind.i64 p1_set))] a := hS
  unfold S_impl_InducedOn at hF
  refine wp_seq_k fun K1 hK1 => ?_
  refine wp_region_lit ?_
  obtain ⟨b4, w, hr, hM⟩ := hM.boxE (ρ := a.eval) (dst := some 2) (ty := _) (pos := _) (af := _) (gd := _) (x := .tmp 0) (T := 27) [(Value.int IntKind.i64 p0_g_Size), p0_g_Rowsv] (hS.ev rfl) rfl
  refine st_val hS rfl rfl (by decide) hr fun a hS => ?_
  obtain ⟨b5, w, hr, hM⟩ := hM.allocE (ρ := a.eval) (dst := some 4) (ty := _) (pos := _) (af := _) (gd := _) (T := 27) (P := Try.prog) [(Value.int IntKind.i64 0), (Value.slice none 0 0)] ty_zr_27 rfl
  refine st_val hS rfl rfl (by decide) hr fun a hS => ?_
  have hM := hM.addNil 3
  refine st_val hS rfl rfl (by decide) (rv_assign (hS.ev rfl)) fun a hS => ?_
  refine wpList_nil ?_
  refine hK1 _ _ ?_
  refine wp_seq_k fun K6 hK6 => ?_
  refine wp_seq_k fun K12 hK12 => ?_
  have hJ1 : ∀ (p14 : Bool) (a : Act) (w : World), Sl 18 [(1, (Value.int IntKind.i64 p1_set)), (2, (fdp b4 0)), (4, (fdp b5 0)), (13, (Value.bool p14))] a → Mem Nob w0 w [(true, bx b4 27 [(Value.int IntKind.i64 p0_g_Size), p0_g_Rowsv]), (false, rd p0_g_Rowsv (List.map (Value.int IntKind.i64) p0_g_Rows)), (true, bx b5 27 [(Value.int IntKind.i64 0), (Value.slice none 0 0)]), (true, ow 3 (Value.slice none 0 0) (List.map (Value.int IntKind.i64) ([] : List (Int))))] → S_impl_InducedOn_j1 F p0_g_Size p0_g_Rows p1_set p14 = some r → K12 a w := by
    intro p14 a w hS hM hF
    unfold S_impl_InducedOn_j1 at hF
    refine hK12 _ _ ?_
    rcases ite_some hF with ⟨hc, hF⟩ | ⟨hc, hF⟩
    · refine cond_t hS rfl hc ?_
      refine wp_seq_k fun K15 hK15 => ?_
      refine wp_region_lit ?_
      refine st_val hS rfl rfl (by decide) (rv_build hS ty_st_27 rfl (by simp) ones_nil) fun a hS => ?_
      have hM := hM.pick [2, 0, 1, 3] (by decide) rfl
      obtain ⟨w, hr, hM⟩ := hM.st_agg (us := [(Value.int IntKind.i64 0), (Value.slice none 0 0)]) (ρ := a.eval) (dst := none) (ty := _) (pos := _) (af := _) (gd := _) (x := .tmp 4) (y := .tmp 14) (hS.ev rfl) (hS.ev rfl) ty_sz_27 (all1_cons rfl (all1_cons rfl all1_nil)) rfl
      refine st_unit hS rfl rfl hr ?_
      have hM := hM.addNil 3
      refine st_val hS rfl rfl (by decide) (rv_assign (hS.ev rfl)) fun a hS => ?_
      refine wpList_nil ?_
      refine hK15 _ _ ?_
      refine wp_ret ?_
      cases hF
      exact hQr _ _ (r_cc hS rfl ⟨_, rfl, run_loadAgg ty_ag_27 (hM.get 1 rfl) ty_sz_27⟩ rfl ⟨(Value.slice none 0 0), rfl, hM.pick [0] (by decide) rfl⟩)
    · refine cond_f hS rfl hc ?_
      refine wp_skip ?_
      refine hK6 _ _ ?_
      refine wp_seq_k fun K16 hK16 => ?_
      refine wp_region_lit ?_
      refine st_val hS rfl rfl (by decide) (rv_load_agg (hS.ev rfl) ty_ag_27 (hM.get 0 rfl) ty_sz_27) fun a hS => ?_
      refine st_val hS rfl rfl (by decide) (rv_move (hS.ev rfl)) fun a hS => ?_
      obtain ⟨r19, hr, hF⟩ := bind_some hF
      refine st_wp hS rfl (wp_call hS rfl rfl (by decide) fn_ok_69 rfl (c_impl_induced F p0_g_Size p0_g_Rows p1_set p0_g_Rowsv hr _ (hM.get 1 rfl)) fun v w a hK hS => ?_)
      obtain ⟨v20, rfl, hN⟩ := hK
      have hM := hM.add hN rfl
      have hM := hM.pick [3, 0, 1, 2, 4] (by decide) rfl
      obtain ⟨w, hr, hM⟩ := hM.st_agg (us := [(Value.int IntKind.i64 r19.1), v20]) (ρ := a.eval) (dst := none) (ty := _) (pos := _) (af := _) (gd := _) (x := .tmp 4) (y := .tmp 17) (hS.ev rfl) (hS.ev rfl) ty_sz_27 (all1_cons rfl (all1_cons (rd_one (rd_of_ow (hM.get 1 rfl))) all1_nil)) rfl
      refine st_unit hS rfl rfl hr ?_
      refine st_val hS rfl rfl (by decide) (rv_assign (hS.ev rfl)) fun a hS => ?_
      refine wpList_nil ?_
      refine hK16 _ _ ?_
      refine wp_ret ?_
      cases hF
      exact hQr _ _ (r_cc hS rfl ⟨_, rfl, run_loadAgg ty_ag_27 (hM.get 0 rfl) ty_sz_27⟩ rfl ⟨v20, rfl, hM.pick [1] (by decide) rfl⟩)
  refine wp_region_lit ?_
  refine st_val hS rfl rfl (by decide) (rv_load_agg (hS.ev rfl) ty_ag_27 (hM.get 2 rfl) ty_sz_27) fun a hS => ?_
  refine st_val hS rfl rfl (by decide) (rv_move (hS.ev rfl)) fun a hS => ?_
  obtain ⟨r21, hr, hF⟩ := bind_some hF
  refine st_wp hS rfl (wp_call hS rfl rfl (by decide) fn_ok_68 rfl (c_impl_IsSet F p0_g_Size p0_g_Rows p1_set p0_g_Rowsv hr _ (hM.get 3 rfl)) fun v w a hK hS => ?_)
  obtain ⟨rfl, hN⟩ := hK
  have hM := hM.fra hN.fr
  refine st_val hS rfl rfl (by decide) (rv_not (hS.ev rfl)) fun a hS => ?_
  refine st_val hS rfl rfl (by decide) (rv_move (hS.ev rfl)) fun a hS => ?_
  rcases ite_some hF with ⟨hc, hF⟩ | ⟨hc, hF⟩
  · have hS := hS.setb (t := 10) rfl hc
    refine st_skip hS rfl rfl (by decide) fun a hS => ?_
    refine st_skip hS rfl rfl (by decide) fun a hS => ?_
    refine st_val hS rfl rfl (by decide) (rv_pick_t (hS.ev rfl) (hS.ev rfl)) fun a hS => ?_
    refine wpList_nil ?_
    exact hJ1 true _ _ (hS.sub (sub_cons rfl (sub_cons rfl (sub_cons rfl (sub_cons rfl sub_nil))))) (hM.pick [2, 3, 1, 0] (by decide) rfl) hF
  · have hS := hS.setb (t := 10) rfl hc
    refine st_val hS rfl rfl (by decide) (rv_move (hS.ev rfl)) fun a hS => ?_
    refine st_val hS rfl rfl (by decide) (rv_eql (hS.ev rfl) (hS.ev rfl)) fun a hS => ?_
    refine st_val hS rfl rfl (by decide) (rv_pick_f (hS.ev rfl) (hS.ev rfl)) fun a hS => ?_
    refine wpList_nil ?_
    exact hJ1 (p1_set == 0) _ _ (hS.sub (sub_cons rfl (sub_cons rfl (sub_cons rfl (sub_cons rfl sub_nil))))) (hM.pick [2, 3, 1, 0] (by decide) rfl) hF


theorem c_laws_heldGraph (F : Nat) (p0_a_Size : Int) (p0_a_Rows : List Int) (p1_k : Int) (p0_a_Rowsv : Value) {r : Int} (hF : S_laws_heldGraph F p0_a_Size p0_a_Rows p1_k = some r) (w0 : World) (h0 : RdRow w0 p0_a_Rowsv (List.map (Value.int IntKind.i64) p0_a_Rows)) :
    Calls Try.prog 35 [(Value.agg #[(Value.int IntKind.i64 p0_a_Size), p0_a_Rowsv]), (Value.int IntKind.i64 p1_k)].toArray w0 (retPost fun v w' => v = (Value.int IntKind.i64 r) ∧ Mem Nob w0 w' []) := by
  have hM : Mem Nob w0 w0 [(false, rd p0_a_Rowsv (List.map (Value.int IntKind.i64) p0_a_Rows))] := (Mem.rcons (Mem.nil w0) h0 (by simp))
  refine enter2 Try.func35 rfl rfl rfl fun Q a hQr hQn hQp hS => ?_
  have hS : Sl 12 [(0, (Value.agg #[(Value.int IntKind.i64 p0_a_Size), p0_a_Rowsv])), (1, (Value.int IntKind.i64 p1_k))] a := hS
  unfold S_laws_heldGraph at hF
  refine wp_seq_k fun K1 hK1 => ?_
  refine wp_region_lit ?_
  obtain ⟨b3, w, hr, hM⟩ := hM.boxE (ρ := a.eval) (dst := some 2) (ty := _) (pos := _) (af := _) (gd := _) (x := .tmp 0) (T := 27) [(Value.int IntKind.i64 p0_a_Size), p0_a_Rowsv] (hS.ev rfl) rfl
  refine st_val hS rfl rfl (by decide) hr fun a hS => ?_
  refine st_val hS rfl rfl (by decide) (rv_assign (hS.ev rfl)) fun a hS => ?_
  refine wpList_nil ?_
  refine hK1 _ _ ?_
  refine wp_seq_k fun K4 hK4 => ?_
  refine wp_region_lit ?_
  refine st_val hS rfl rfl (by decide) (rv_fieldAddr ty_fd_27_1 (hS.ev rfl)) fun a hS => ?_
  refine st_val hS rfl rfl (by decide) (rv_load_bx (hS.ev rfl) ty_ag_22 (hM.get 0 rfl) rfl) fun a hS => ?_
  refine st_val hS rfl rfl (by decide) (rv_move (hS.ev rfl)) fun a hS => ?_
  obtain ⟨r6, hr, hF⟩ := bind_some hF
  refine st_wp hS rfl (wp_call hS rfl rfl (by decide) fn_ok_23 rfl (c_laws_heldIntS F p0_a_Rows p1_k p0_a_Rowsv hr _ (hM.get 1 rfl)) fun v w a hK hS => ?_)
  obtain ⟨rfl, hN⟩ := hK
  have hM := hM.fra hN.fr
  refine st_val hS rfl rfl (by decide) (rv_assign (hS.ev rfl)) fun a hS => ?_
  refine wpList_nil ?_
  refine hK4 _ _ ?_
  refine wp_seq_k fun K7 hK7 => ?_
  refine wp_seq_k fun K10 hK10 => ?_
  refine wp_region_lit ?_
  refine st_val hS rfl rfl (by decide) (rv_move (hS.ev rfl)) fun a hS => ?_
  refine st_val hS rfl rfl (by decide) (rv_lss (hS.ev rfl) (hS.ev rfl)) fun a hS => ?_
  refine wpList_nil ?_
  refine hK10 _ _ ?_
  rcases ite_some hF with ⟨hc, hF⟩ | ⟨hc, hF⟩
  · refine cond_t hS rfl hc ?_
    refine wp_seq_k fun K11 hK11 => ?_
    refine wp_region_lit ?_
    refine st_val hS rfl rfl (by decide) (rv_assign (hS.ev rfl)) fun a hS => ?_
    refine wpList_nil ?_
    refine hK11 _ _ ?_
    refine wp_ret ?_
    cases hF
    exact hQr _ _ (r_1 hS rfl rfl ⟨rfl, hM.pick [] (by decide) rfl⟩)
  · refine cond_f hS rfl hc ?_
    refine wp_skip ?_
    refine hK7 _ _ ?_
    refine wp_seq_k fun K12 hK12 => ?_
    refine wp_region_lit ?_
    refine st_val hS rfl rfl (by decide) (rv_move (hS.ev rfl)) fun a hS => ?_
    refine st_val hS rfl rfl (by decide) (rv_assign (hS.ev rfl)) fun a hS => ?_
    refine wpList_nil ?_
    refine hK12 _ _ ?_
    refine wp_ret ?_
    cases hF
    exact hQr _ _ (r_1 hS rfl rfl ⟨rfl, hM.pick [] (by decide) rfl⟩)


theorem c_laws_FnExactInducedOn (F : Nat) (p0_aG_Size : Int) (p0_aG_Rows : List Int) (p1_aSet : Int) (p0_aG_Rowsv : Value) {r : Bool} (hF : S_laws_FnExactInducedOn F p0_aG_Size p0_aG_Rows p1_aSet = some r) (w0 : World) (h0 : RdRow w0 p0_aG_Rowsv (List.map (Value.int IntKind.i64) p0_aG_Rows)) :
    Calls Try.prog 8 [(Value.agg #[(Value.int IntKind.i64 p0_aG_Size), p0_aG_Rowsv]), (Value.int IntKind.i64 p1_aSet)].toArray w0 (retPost fun v w' => v = (Value.bool r) ∧ Mem Nob w0 w' []) := by
  have hM : Mem Nob w0 w0 [(false, rd p0_aG_Rowsv (List.map (Value.int IntKind.i64) p0_aG_Rows))] := (Mem.rcons (Mem.nil w0) h0 (by simp))
  refine enter2 Try.func8 rfl rfl rfl fun Q a hQr hQn hQp hS => ?_
  have hS : Sl 101 [(0, (Value.agg #[(Value.int IntKind.i64 p0_aG_Size), p0_aG_Rowsv])), (1, (Value.int IntKind.i64 p1_aSet))] a := hS
  unfold S_laws_FnExactInducedOn at hF
  refine wp_seq_k fun K1 hK1 => ?_
  refine wp_region_lit ?_
  obtain ⟨b3, w, hr, hM⟩ := hM.boxE (ρ := a.eval) (dst := some 2) (ty := _) (pos := _) (af := _) (gd := _) (x := .tmp 0) (T := 24) [(Value.int IntKind.i64 p0_aG_Size), p0_aG_Rowsv] (hS.ev rfl) rfl
  refine st_val hS rfl rfl (by decide) hr fun a hS => ?_
  refine st_val hS rfl rfl (by decide) (rv_assign (hS.ev rfl)) fun a hS => ?_
  refine wpList_nil ?_
  refine hK1 _ _ ?_
  refine wp_seq_k fun K4 hK4 => ?_
  refine wp_region_lit ?_
  refine st_val hS rfl rfl (by decide) (rv_assign (hS.ev rfl)) fun a hS => ?_
  refine wpList_nil ?_
  refine hK4 _ _ ?_
  refine wp_seq_k fun K5 hK5 => ?_
  refine wp_region_lit ?_
  refine st_val hS rfl rfl (by decide) (rv_load_agg (hS.ev rfl) ty_ag_24 (hM.get 0 rfl) ty_sz_24) fun a hS => ?_
  refine st_val hS rfl rfl (by decide) (rv_move (hS.ev rfl)) fun a hS => ?_
  obtain ⟨r7, hr, hF⟩ := bind_some hF
  refine st_wp hS rfl (wp_call hS rfl rfl (by decide) fn_ok_15 rfl (c_laws_szGraph F p0_aG_Size p0_aG_Rows 1048576 p0_aG_Rowsv hr _ (hM.get 1 rfl)) fun v w a hK hS => ?_)
  obtain ⟨rfl, hN⟩ := hK
  have hM := hM.fra hN.fr
  refine st_val hS rfl rfl (by decide) (rv_assign (hS.ev rfl)) fun a hS => ?_
  refine wpList_nil ?_
  refine hK5 _ _ ?_
  refine wp_seq_k fun K8 hK8 => ?_
  refine wp_seq_k fun K11 hK11 => ?_
  refine wp_region_lit ?_
  refine st_val hS rfl rfl (by decide) (rv_move (hS.ev rfl)) fun a hS => ?_
  refine st_val hS rfl rfl (by decide) (rv_lss (hS.ev rfl) (hS.ev rfl)) fun a hS => ?_
  refine wpList_nil ?_
  refine hK11 _ _ ?_
  rcases ite_some hF with ⟨hc, hF⟩ | ⟨hc, hF⟩
  · refine cond_t hS rfl hc ?_
    refine wp_seq_k fun K12 hK12 => ?_
    refine wp_region_lit ?_
    refine st_val hS rfl rfl (by decide) (rv_assign (hS.ev rfl)) fun a hS => ?_
    refine wpList_nil ?_
    refine hK12 _ _ ?_
    refine wp_ret ?_
    cases hF
    exact hQr _ _ (r_1 hS rfl rfl ⟨rfl, hM.pick [] (by decide) rfl⟩)
  · refine cond_f hS rfl hc ?_
    refine wp_skip ?_
    refine hK8 _ _ ?_
    refine wp_seq_k fun K13 hK13 => ?_
    refine wp_region_lit ?_
    refine st_val hS rfl rfl (by decide) (rv_load_agg (hS.ev rfl) ty_ag_24 (hM.get 0 rfl) ty_sz_24) fun a hS => ?_
    obtain ⟨r19, hr, hF⟩ := bind_some hF
    refine st_wp hS rfl (wp_call hS rfl rfl (by decide) fn_ok_17 rfl (c_laws_toGraph F p0_aG_Size p0_aG_Rows p0_aG_Rowsv hr _ (hM.get 1 rfl)) fun v w a hK hS => ?_)
    obtain ⟨v20, rfl, hN⟩ := hK
    have hM := hM.add hN rfl
    refine st_val hS rfl rfl (by decide) (rv_move (hS.ev rfl)) fun a hS => ?_
    obtain ⟨r21, hr, hF⟩ := bind_some hF
    refine st_wp hS rfl (wp_call hS rfl rfl (by decide) fn_ok_33 rfl (c_spec_InducedOn F r19.1 r19.2 p1_aSet v20 hr _ (rd_of_ow (hM.get 0 rfl))) fun v w a hK hS => ?_)
    obtain ⟨v22, rfl, hN⟩ := hK
    have hM := hM.add hN rfl
    refine st_val hS rfl rfl (by decide) (rv_move (hS.ev rfl)) fun a hS => ?_
    refine st_val hS rfl rfl (by decide) (rv_extract (hS.ev rfl) rfl) fun a hS => ?_
    refine st_val hS rfl rfl (by decide) (rv_extract (hS.ev rfl) rfl) fun a hS => ?_
    obtain ⟨b23, w, hr, hM⟩ := hM.allocE (ρ := a.eval) (dst := some 6) (ty := _) (pos := _) (af := _) (gd := _) (T := 27) (P := Try.prog) [(Value.int IntKind.i64 0), (Value.slice none 0 0)] ty_zr_27 rfl
    refine st_val hS rfl rfl (by decide) hr fun a hS => ?_
    have hM := hM.addNil 3
    have hM := hM.pick [1, 0, 2, 3, 4, 5] (by decide) rfl
    obtain ⟨w, hr, hM⟩ := hM.st_agg (us := [(Value.int IntKind.i64 r21.1), v22]) (ρ := a.eval) (dst := none) (ty := _) (pos := _) (af := _) (gd := _) (x := .tmp 6) (y := .tmp 26) (hS.ev rfl) (hS.ev rfl) ty_sz_27 (all1_cons rfl (all1_cons (rd_one (rd_of_ow (hM.get 2 rfl))) all1_nil)) rfl
    refine st_unit hS rfl rfl hr ?_
    refine st_val hS rfl rfl (by decide) (rv_assign (hS.ev rfl)) fun a hS => ?_
    refine wpList_nil ?_
    refine hK13 _ _ ?_
    refine wp_seq_k fun K24 hK24 => ?_
    refine wp_region_lit ?_
    refine st_val hS rfl rfl (by decide) (rv_load_agg (hS.ev rfl) ty_ag_24 (hM.get 4 rfl) ty_sz_24) fun a hS => ?_
    obtain ⟨r28, hr, hF⟩ := bind_some hF
    refine st_wp hS rfl (wp_call hS rfl rfl (by decide) fn_ok_17 rfl (c_laws_toGraph F p0_aG_Size p0_aG_Rows p0_aG_Rowsv hr _ (hM.get 5 rfl)) fun v w a hK hS => ?_)
    obtain ⟨v29, rfl, hN⟩ := hK
    have hM := hM.add hN rfl
    obtain ⟨b30, w, hr, hM⟩ := hM.allocE (ρ := a.eval) (dst := some 8) (ty := _) (pos := _) (af := _) (gd := _) (T := 27) (P := Try.prog) [(Value.int IntKind.i64 0), (Value.slice none 0 0)] ty_zr_27 rfl
    refine st_val hS rfl rfl (by decide) hr fun a hS => ?_
    have hM := hM.addNil 3
    have hM := hM.pick [1, 0, 2, 3, 4, 5, 6, 7, 8] (by decide) rfl
    obtain ⟨w, hr, hM⟩ := hM.st_agg (us := [(Value.int IntKind.i64 r28.1), v29]) (ρ := a.eval) (dst := none) (ty := _) (pos := _) (af := _) (gd := _) (x := .tmp 8) (y := .tmp 29) (hS.ev rfl) (hS.ev rfl) ty_sz_27 (all1_cons rfl (all1_cons (rd_one (rd_of_ow (hM.get 2 rfl))) all1_nil)) rfl
    refine st_unit hS rfl rfl hr ?_
    refine wpList_nil ?_
    refine hK24 _ _ ?_
    refine wp_seq_k fun K31 hK31 => ?_
    refine wp_region_lit ?_
    refine st_val hS rfl rfl (by decide) (rv_load_agg (hS.ev rfl) ty_ag_27 (hM.get 0 rfl) ty_sz_27) fun a hS => ?_
    refine st_val hS rfl rfl (by decide) (rv_move (hS.ev rfl)) fun a hS => ?_
    obtain ⟨r35, hr, hF⟩ := bind_some hF
    refine st_wp hS rfl (wp_call hS rfl rfl (by decide) fn_ok_34 rfl (c_impl_InducedOn F r28.1 r28.2 p1_aSet v29 hr _ (rd_of_ow (hM.get 2 rfl))) fun v w a hK hS => ?_)
    obtain ⟨v36, rfl, hN⟩ := hK
    have hM := hM.add hN rfl
    refine st_val hS rfl rfl (by decide) (rv_move (hS.ev rfl)) fun a hS => ?_
    refine st_val hS rfl rfl (by decide) (rv_extract (hS.ev rfl) rfl) fun a hS => ?_
    refine st_val hS rfl rfl (by decide) (rv_extract (hS.ev rfl) rfl) fun a hS => ?_
    obtain ⟨b37, w, hr, hM⟩ := hM.allocE (ρ := a.eval) (dst := some 9) (ty := _) (pos := _) (af := _) (gd := _) (T := 27) (P := Try.prog) [(Value.int IntKind.i64 0), (Value.slice none 0 0)] ty_zr_27 rfl
    refine st_val hS rfl rfl (by decide) hr fun a hS => ?_
    have hM := hM.addNil 3
    have hM := hM.pick [1, 0, 2, 3, 4, 5, 6, 7, 8, 9, 10, 11] (by decide) rfl
    obtain ⟨w, hr, hM⟩ := hM.st_agg (us := [(Value.int IntKind.i64 r35.1), v36]) (ρ := a.eval) (dst := none) (ty := _) (pos := _) (af := _) (gd := _) (x := .tmp 9) (y := .tmp 34) (hS.ev rfl) (hS.ev rfl) ty_sz_27 (all1_cons rfl (all1_cons (rd_one (rd_of_ow (hM.get 2 rfl))) all1_nil)) rfl
    refine st_unit hS rfl rfl hr ?_
    refine st_val hS rfl rfl (by decide) (rv_assign (hS.ev rfl)) fun a hS => ?_
    refine wpList_nil ?_
    refine hK31 _ _ ?_
    refine wp_seq_k fun K38 hK38 => ?_
    refine wp_seq_k fun K44 hK44 => ?_
    have hJ1 : ∀ (p46 : Bool) (a : Act) (w : World), Sl 101 [(1, (Value.int IntKind.i64 p1_aSet)), (2, (fdp b3 0)), (6, (fdp b23 0)), (7, (Value.bool r21.2.2)), (8, (fdp b30 0)), (9, (fdp b37 0)), (10, (Value.bool r35.2.2)), (44, (Value.bool p46))] a → Mem Nob w0 w [(true, bx b3 24 [(Value.int IntKind.i64 p0_aG_Size), p0_aG_Rowsv]), (false, rd p0_aG_Rowsv (List.map (Value.int IntKind.i64) p0_aG_Rows)), (true, bx b23 27 [(Value.int IntKind.i64 r21.1), v22]), (true, ow 3 v22 (List.map (Value.int IntKind.i64) r21.2.1)), (true, bx b30 27 [(Value.int IntKind.i64 r28.1), v29]), (true, ow 3 v29 (List.map (Value.int IntKind.i64) r28.2)), (true, bx b37 27 [(Value.int IntKind.i64 r35.1), v36]), (true, ow 3 v36 (List.map (Value.int IntKind.i64) r35.2.1))] → S_laws_FnExactInducedOn_j1 F p0_aG_Size p0_aG_Rows p1_aSet r21 r28 r35 p46 = some r → K44 a w := by
      intro p46 a w hS hM hF
      unfold S_laws_FnExactInducedOn_j1 at hF
      refine hK44 _ _ ?_
      rcases ite_some hF with ⟨hc, hF⟩ | ⟨hc, hF⟩
      · refine cond_t hS rfl hc ?_
        refine wp_seq_k fun K47 hK47 => ?_
        refine wp_region_lit ?_
        refine st_val hS rfl rfl (by decide) (rv_assign (hS.ev rfl)) fun a hS => ?_
        refine wpList_nil ?_
        refine hK47 _ _ ?_
        refine wp_ret ?_
        cases hF
        exact hQr _ _ (r_1 hS rfl rfl ⟨rfl, hM.pick [] (by decide) rfl⟩)
      · refine cond_f hS rfl hc ?_
        refine wp_skip ?_
        refine hK38 _ _ ?_
        refine wp_seq_k fun K48 hK48 => ?_
        refine wp_seq_k fun K57 hK57 => ?_
        refine an_start Nob ty_mixed fun w hf => ?_
        have hM := hM.fra hf
        have hB := hM
        have hM := hB.reg0
        refine an_take hS (i := 0) rfl (by kernel_rfl) (by kernel_rfl) (by kernel_rfl) rfl (by decide) (fun c a a' w hd h => hQp c a a' w hd h) rfl (fun w' hC' => (rv_load_agg (hS.ev rfl) ty_ag_27 ((hB.fra hC').get 4 rfl) ty_sz_27)) hM.fr fun a hS => ?_
        refine an_take hS (i := 1) rfl (by kernel_rfl) (by kernel_rfl) (by kernel_rfl) rfl (by decide) (fun c a a' w hd h => hQp c a a' w hd h) rfl (fun w' hC' => (rv_load_agg (hS.ev rfl) ty_ag_24 ((hB.fra hC').get 0 rfl) ty_sz_24)) hM.fr fun a hS => ?_
        obtain ⟨r61, hr, hF⟩ := bind_some hF
        refine an_one hS (i := 2) rfl (by kernel_rfl) rfl ?_
        refine wp_call hS rfl rfl (by decide) fn_ok_17 rfl (c_laws_toGraph F p0_aG_Size p0_aG_Rows p0_aG_Rowsv hr _ (hM.get 1 rfl)) fun v w a hK hS => ?_
        obtain ⟨v62, rfl, hN⟩ := hK
        have hM := hM.add hN rfl
        refine ⟨hM.fr, ?_⟩
        obtain ⟨r63, hr, hF⟩ := bind_some hF
        refine an_one hS (i := 3) rfl (by kernel_rfl) rfl ?_
        refine wp_call hS rfl rfl (by decide) fn_ok_20 rfl (c_laws_eqGraph F r28.1 r28.2 r61.1 r61.2 v29 v62 hr _ (rd_of_ow (hM.get 6 rfl)) (rd_of_ow (hM.get 0 rfl))) fun v w a hK hS => ?_
        obtain ⟨rfl, hN⟩ := hK
        have hM := hM.fra hN.fr
        refine ⟨hM.fr, ?_⟩
        refine an_take hS (i := 4) rfl (by kernel_rfl) (by kernel_rfl) (by kernel_rfl) rfl (by decide) (fun c a a' w hd h => hQp c a a' w hd h) rfl (fun w' hC' => (rv_not (hS.ev rfl))) hM.fr fun a hS => ?_
        refine an_done (by kernel_rfl) ?_
        have hN := hM.pick [0] (by decide) rfl
        have hM := Mem.callo (A := []) (B := [(true, bx b3 24 [(Value.int IntKind.i64 p0_aG_Size), p0_aG_Rowsv]), (false, rd p0_aG_Rowsv (List.map (Value.int IntKind.i64) p0_aG_Rows)), (true, bx b23 27 [(Value.int IntKind.i64 r21.1), v22]), (true, ow 3 v22 (List.map (Value.int IntKind.i64) r21.2.1)), (true, bx b30 27 [(Value.int IntKind.i64 r28.1), v29]), (true, ow 3 v29 (List.map (Value.int IntKind.i64) r28.2)), (true, bx b37 27 [(Value.int IntKind.i64 r35.1), v36]), (true, ow 3 v36 (List.map (Value.int IntKind.i64) r35.2.1))]) hB rfl (hN.memS fun _ h => h.elim) rfl
        refine hK57 _ _ ?_
        rcases ite_some hF with ⟨hc, hF⟩ | ⟨hc, hF⟩
        · refine cond_t hS rfl hc ?_
          refine wp_seq_k fun K64 hK64 => ?_
          refine wp_region_lit ?_
          refine st_val hS rfl rfl (by decide) (rv_assign (hS.ev rfl)) fun a hS => ?_
          refine wpList_nil ?_
          refine hK64 _ _ ?_
          refine wp_ret ?_
          cases hF
          exact hQr _ _ (r_1 hS rfl rfl ⟨rfl, hM.pick [] (by decide) rfl⟩)
        · refine cond_f hS rfl hc ?_
          refine wp_skip ?_
          refine hK48 _ _ ?_
          refine wp_seq_k fun K65 hK65 => ?_
          refine wp_region_lit ?_
          refine st_val hS rfl rfl (by decide) (rv_assign (hS.ev rfl)) fun a hS => ?_
          refine wpList_nil ?_
          refine hK65 _ _ ?_
          refine wp_seq_k fun K66 hK66 => ?_
          refine wp_region_lit ?_
          refine st_val hS rfl rfl (by decide) (rv_load_agg (hS.ev rfl) ty_ag_27 (hM.get 5 rfl) ty_sz_27) fun a hS => ?_
          refine st_val hS rfl rfl (by decide) (rv_move (hS.ev rfl)) fun a hS => ?_
          obtain ⟨r68, hr, hF⟩ := bind_some hF
          have hM := hM.pick [6, 0, 1, 2, 3, 4, 5, 7, 8] (by decide) rfl
          have hP := Mem.pre (A := [(true, ow 3 v29 (List.map (Value.int IntKind.i64) r28.2))]) (C := []) (B := [(true, ow 3 v62 (List.map (Value.int IntKind.i64) r61.2)), (true, bx b3 24 [(Value.int IntKind.i64 p0_aG_Size), p0_aG_Rowsv]), (false, rd p0_aG_Rowsv (List.map (Value.int IntKind.i64) p0_aG_Rows)), (true, bx b23 27 [(Value.int IntKind.i64 r21.1), v22]), (true, ow 3 v22 (List.map (Value.int IntKind.i64) r21.2.1)), (true, bx b30 27 [(Value.int IntKind.i64 r28.1), v29]), (true, bx b37 27 [(Value.int IntKind.i64 r35.1), v36]), (true, ow 3 v36 (List.map (Value.int IntKind.i64) r35.2.1))]) hM rfl weaks_nil
          refine st_wp hS rfl (wp_call hS rfl rfl (by decide) fn_ok_21 rfl (c_laws_markGraph F r28.1 r28.2 1 v29 hr _ hP) fun v w a hK hS => ?_)
          obtain ⟨rfl, hN⟩ := hK
          have hM := Mem.callo (A := [(true, ow 3 v29 (List.map (Value.int IntKind.i64) r28.2))]) (B := [(true, ow 3 v62 (List.map (Value.int IntKind.i64) r61.2)), (true, bx b3 24 [(Value.int IntKind.i64 p0_aG_Size), p0_aG_Rowsv]), (false, rd p0_aG_Rowsv (List.map (Value.int IntKind.i64) p0_aG_Rows)), (true, bx b23 27 [(Value.int IntKind.i64 r21.1), v22]), (true, ow 3 v22 (List.map (Value.int IntKind.i64) r21.2.1)), (true, bx b30 27 [(Value.int IntKind.i64 r28.1), v29]), (true, bx b37 27 [(Value.int IntKind.i64 r35.1), v36]), (true, ow 3 v36 (List.map (Value.int IntKind.i64) r35.2.1))]) hM rfl hN rfl
          refine st_val hS rfl rfl (by decide) (rv_assign (hS.ev rfl)) fun a hS => ?_
          refine wpList_nil ?_
          refine hK66 _ _ ?_
          refine wp_seq_k fun K69 hK69 => ?_
          refine wp_seq_k fun K75 hK75 => ?_
          have hJ2 : ∀ (p77 : Bool) (a : Act) (w : World), Sl 101 [(1, (Value.int IntKind.i64 p1_aSet)), (2, (fdp b3 0)), (6, (fdp b23 0)), (7, (Value.bool r21.2.2)), (9, (fdp b37 0)), (65, (Value.bool p77))] a → Mem Nob w0 w [(true, bx b3 24 [(Value.int IntKind.i64 p0_aG_Size), p0_aG_Rowsv]), (false, rd p0_aG_Rowsv (List.map (Value.int IntKind.i64) p0_aG_Rows)), (true, bx b23 27 [(Value.int IntKind.i64 r21.1), v22]), (true, ow 3 v22 (List.map (Value.int IntKind.i64) r21.2.1)), (true, bx b37 27 [(Value.int IntKind.i64 r35.1), v36]), (true, ow 3 v36 (List.map (Value.int IntKind.i64) r35.2.1))] → S_laws_FnExactInducedOn_j2 F p0_aG_Size p0_aG_Rows p1_aSet r21 r35 p77 = some r → K75 a w := by
            intro p77 a w hS hM hF
            unfold S_laws_FnExactInducedOn_j2 at hF
            refine hK75 _ _ ?_
            rcases ite_some hF with ⟨hc, hF⟩ | ⟨hc, hF⟩
            · refine cond_t hS rfl hc ?_
              refine wp_seq_k fun K78 hK78 => ?_
              refine wp_region_lit ?_
              refine st_val hS rfl rfl (by decide) (rv_assign (hS.ev rfl)) fun a hS => ?_
              refine wpList_nil ?_
              refine hK78 _ _ ?_
              refine wp_ret ?_
              cases hF
              exact hQr _ _ (r_1 hS rfl rfl ⟨rfl, hM.pick [] (by decide) rfl⟩)
            · refine cond_f hS rfl hc ?_
              refine wp_skip ?_
              refine hK69 _ _ ?_
              refine wp_seq_k fun K79 hK79 => ?_
              refine wp_region_lit ?_
              refine st_val hS rfl rfl (by decide) (rv_assign (hS.ev rfl)) fun a hS => ?_
              refine wpList_nil ?_
              refine hK79 _ _ ?_
              refine wp_seq_k fun K80 hK80 => ?_
              refine wp_region_lit ?_
              refine st_val hS rfl rfl (by decide) (rv_load_agg (hS.ev rfl) ty_ag_27 (hM.get 4 rfl) ty_sz_27) fun a hS => ?_
              refine st_val hS rfl rfl (by decide) (rv_move (hS.ev rfl)) fun a hS => ?_
              obtain ⟨r82, hr, hF⟩ := bind_some hF
              have hM := hM.pick [5, 0, 1, 2, 3, 4] (by decide) rfl
              have hP := Mem.pre (A := [(true, ow 3 v36 (List.map (Value.int IntKind.i64) r35.2.1))]) (C := []) (B := [(true, bx b3 24 [(Value.int IntKind.i64 p0_aG_Size), p0_aG_Rowsv]), (false, rd p0_aG_Rowsv (List.map (Value.int IntKind.i64) p0_aG_Rows)), (true, bx b23 27 [(Value.int IntKind.i64 r21.1), v22]), (true, ow 3 v22 (List.map (Value.int IntKind.i64) r21.2.1)), (true, bx b37 27 [(Value.int IntKind.i64 r35.1), v36])]) hM rfl weaks_nil
              refine st_wp hS rfl (wp_call hS rfl rfl (by decide) fn_ok_21 rfl (c_laws_markGraph F r35.1 r35.2.1 1 v36 hr _ hP) fun v w a hK hS => ?_)
              obtain ⟨rfl, hN⟩ := hK
              have hM := Mem.callo (A := [(true, ow 3 v36 (List.map (Value.int IntKind.i64) r35.2.1))]) (B := [(true, bx b3 24 [(Value.int IntKind.i64 p0_aG_Size), p0_aG_Rowsv]), (false, rd p0_aG_Rowsv (List.map (Value.int IntKind.i64) p0_aG_Rows)), (true, bx b23 27 [(Value.int IntKind.i64 r21.1), v22]), (true, ow 3 v22 (List.map (Value.int IntKind.i64) r21.2.1)), (true, bx b37 27 [(Value.int IntKind.i64 r35.1), v36])]) hM rfl hN rfl
              refine st_val hS rfl rfl (by decide) (rv_assign (hS.ev rfl)) fun a hS => ?_
              refine wpList_nil ?_
              refine hK80 _ _ ?_
              refine wp_seq_k fun K83 hK83 => ?_
              refine wp_region_lit ?_
              refine st_val hS rfl rfl (by decide) (rv_assign (hS.ev rfl)) fun a hS => ?_
              refine wpList_nil ?_
              refine hK83 _ _ ?_
              refine wp_seq_k fun K84 hK84 => ?_
              refine wp_region_lit ?_
              refine st_val hS rfl rfl (by decide) (rv_load_agg (hS.ev rfl) ty_ag_27 (hM.get 5 rfl) ty_sz_27) fun a hS => ?_
              refine st_val hS rfl rfl (by decide) (rv_move (hS.ev rfl)) fun a hS => ?_
              obtain ⟨r86, hr, hF⟩ := bind_some hF
              refine st_wp hS rfl (wp_call hS rfl rfl (by decide) fn_ok_35 rfl (c_laws_heldGraph F r35.1 r82.2 1 v36 hr _ (rd_of_ow (hM.get 0 rfl))) fun v w a hK hS => ?_)
              obtain ⟨rfl, hN⟩ := hK
              have hM := hM.fra hN.fr
              refine st_val hS rfl rfl (by decide) (rv_assign (hS.ev rfl)) fun a hS => ?_
              refine wpList_nil ?_
              refine hK84 _ _ ?_
              refine wp_seq_k fun K87 hK87 => ?_
              refine wp_seq_k fun K90 hK90 => ?_
              refine wp_region_lit ?_
              refine st_val hS rfl rfl (by decide) (rv_move (hS.ev rfl)) fun a hS => ?_
              refine st_val hS rfl rfl (by decide) (rv_lss (hS.ev rfl) (hS.ev rfl)) fun a hS => ?_
              refine wpList_nil ?_
              refine hK90 _ _ ?_
              rcases ite_some hF with ⟨hc, hF⟩ | ⟨hc, hF⟩
              · refine cond_t hS rfl hc ?_
                refine wp_seq_k fun K91 hK91 => ?_
                refine wp_region_lit ?_
                refine st_val hS rfl rfl (by decide) (rv_assign (hS.ev rfl)) fun a hS => ?_
                refine wpList_nil ?_
                refine hK91 _ _ ?_
                refine wp_ret ?_
                cases hF
                exact hQr _ _ (r_1 hS rfl rfl ⟨rfl, hM.pick [] (by decide) rfl⟩)
              · refine cond_f hS rfl hc ?_
                refine wp_skip ?_
                refine hK87 _ _ ?_
                refine wp_seq_k fun K92 hK92 => ?_
                refine wp_seq_k fun K95 hK95 => ?_
                refine wp_region_lit ?_
                refine st_val hS rfl rfl (by decide) (rv_move (hS.ev rfl)) fun a hS => ?_
                refine st_val hS rfl rfl (by decide) (rv_move (hS.ev rfl)) fun a hS => ?_
                refine st_val hS rfl rfl (by decide) (rv_neq (hS.ev rfl) (hS.ev rfl)) fun a hS => ?_
                refine wpList_nil ?_
                refine hK95 _ _ ?_
                rcases ite_some hF with ⟨hc, hF⟩ | ⟨hc, hF⟩
                · refine cond_t hS rfl hc ?_
                  refine wp_seq_k fun K96 hK96 => ?_
                  refine wp_region_lit ?_
                  refine st_val hS rfl rfl (by decide) (rv_assign (hS.ev rfl)) fun a hS => ?_
                  refine wpList_nil ?_
                  refine hK96 _ _ ?_
                  refine wp_ret ?_
                  cases hF
                  exact hQr _ _ (r_1 hS rfl rfl ⟨rfl, hM.pick [] (by decide) rfl⟩)
                · refine cond_f hS rfl hc ?_
                  refine wp_skip ?_
                  refine hK92 _ _ ?_
                  refine wp_seq_k fun K97 hK97 => ?_
                  refine wp_region_lit ?_
                  refine st_val hS rfl rfl (by decide) (rv_load_agg (hS.ev rfl) ty_ag_24 (hM.get 1 rfl) ty_sz_24) fun a hS => ?_
                  obtain ⟨r103, hr, hF⟩ := bind_some hF
                  refine st_wp hS rfl (wp_call hS rfl rfl (by decide) fn_ok_17 rfl (c_laws_toGraph F p0_aG_Size p0_aG_Rows p0_aG_Rowsv hr _ (hM.get 2 rfl)) fun v w a hK hS => ?_)
                  obtain ⟨v104, rfl, hN⟩ := hK
                  have hM := hM.add hN rfl
                  refine st_val hS rfl rfl (by decide) (rv_move (hS.ev rfl)) fun a hS => ?_
                  obtain ⟨r105, hr, hF⟩ := bind_some hF
                  refine st_wp hS rfl (wp_call hS rfl rfl (by decide) fn_ok_34 rfl (c_impl_InducedOn F r103.1 r103.2 p1_aSet v104 hr _ (rd_of_ow (hM.get 0 rfl))) fun v w a hK hS => ?_)
                  obtain ⟨v106, rfl, hN⟩ := hK
                  have hM := hM.add hN rfl
                  refine st_val hS rfl rfl (by decide) (rv_move (hS.ev rfl)) fun a hS => ?_
                  refine st_val hS rfl rfl (by decide) (rv_extract (hS.ev rfl) rfl) fun a hS => ?_
                  refine st_val hS rfl rfl (by decide) (rv_extract (hS.ev rfl) rfl) fun a hS => ?_
                  obtain ⟨b107, w, hr, hM⟩ := hM.allocE (ρ := a.eval) (dst := some 14) (ty := _) (pos := _) (af := _) (gd := _) (T := 27) (P := Try.prog) [(Value.int IntKind.i64 0), (Value.slice none 0 0)] ty_zr_27 rfl
                  refine st_val hS rfl rfl (by decide) hr fun a hS => ?_
                  have hM := hM.addNil 3
                  have hM := hM.pick [1, 0, 2, 3, 4, 5, 6, 7, 8, 9] (by decide) rfl
                  obtain ⟨w, hr, hM⟩ := hM.st_agg (us := [(Value.int IntKind.i64 r105.1), v106]) (ρ := a.eval) (dst := none) (ty := _) (pos := _) (af := _) (gd := _) (x := .tmp 14) (y := .tmp 82) (hS.ev rfl) (hS.ev rfl) ty_sz_27 (all1_cons rfl (all1_cons (rd_one (rd_of_ow (hM.get 2 rfl))) all1_nil)) rfl
                  refine st_unit hS rfl rfl hr ?_
                  refine st_val hS rfl rfl (by decide) (rv_assign (hS.ev rfl)) fun a hS => ?_
                  refine wpList_nil ?_
                  refine hK97 _ _ ?_
                  refine wp_seq_k fun K108 hK108 => ?_
                  refine wp_seq_k fun K114 hK114 => ?_
                  have hJ3 : ∀ (p116 : Bool) (a : Act) (w : World), Sl 101 [(9, (fdp b37 0)), (12, (Value.int IntKind.i64 r82.1)), (92, (Value.bool p116))] a → Mem Nob w0 w [(true, bx b37 27 [(Value.int IntKind.i64 r35.1), v36]), (true, ow 3 v36 (List.map (Value.int IntKind.i64) r82.2))] → S_laws_FnExactInducedOn_j3 F r35 r82 p116 = some r → K114 a w := by
                    intro p116 a w hS hM hF
                    unfold S_laws_FnExactInducedOn_j3 at hF
                    refine hK114 _ _ ?_
                    rcases ite_some hF with ⟨hc, hF⟩ | ⟨hc, hF⟩
                    · refine cond_t hS rfl hc ?_
                      refine wp_seq_k fun K117 hK117 => ?_
                      refine wp_region_lit ?_
                      refine st_val hS rfl rfl (by decide) (rv_assign (hS.ev rfl)) fun a hS => ?_
                      refine wpList_nil ?_
                      refine hK117 _ _ ?_
                      refine wp_ret ?_
                      cases hF
                      exact hQr _ _ (r_1 hS rfl rfl ⟨rfl, hM.pick [] (by decide) rfl⟩)
                    · refine cond_f hS rfl hc ?_
                      refine wp_skip ?_
                      refine hK108 _ _ ?_
                      refine wp_seq_k fun K118 hK118 => ?_
                      refine wp_region_lit ?_
                      refine st_val hS rfl rfl (by decide) (rv_assign (hS.ev rfl)) fun a hS => ?_
                      refine wpList_nil ?_
                      refine hK118 _ _ ?_
                      refine wp_seq_k fun K119 hK119 => ?_
                      refine wp_region_lit ?_
                      refine st_val hS rfl rfl (by decide) (rv_load_agg (hS.ev rfl) ty_ag_27 (hM.get 0 rfl) ty_sz_27) fun a hS => ?_
                      refine st_val hS rfl rfl (by decide) (rv_move (hS.ev rfl)) fun a hS => ?_
                      obtain ⟨r121, hr, hF⟩ := bind_some hF
                      refine st_wp hS rfl (wp_call hS rfl rfl (by decide) fn_ok_35 rfl (c_laws_heldGraph F r35.1 r82.2 1 v36 hr _ (rd_of_ow (hM.get 1 rfl))) fun v w a hK hS => ?_)
                      obtain ⟨rfl, hN⟩ := hK
                      have hM := hM.fra hN.fr
                      refine st_val hS rfl rfl (by decide) (rv_assign (hS.ev rfl)) fun a hS => ?_
                      refine wpList_nil ?_
                      refine hK119 _ _ ?_
                      refine wp_seq_k fun K122 hK122 => ?_
                      refine wp_seq_k fun K125 hK125 => ?_
                      refine wp_region_lit ?_
                      refine st_val hS rfl rfl (by decide) (rv_move (hS.ev rfl)) fun a hS => ?_
                      refine st_val hS rfl rfl (by decide) (rv_lss (hS.ev rfl) (hS.ev rfl)) fun a hS => ?_
                      refine wpList_nil ?_
                      refine hK125 _ _ ?_
                      rcases ite_some hF with ⟨hc, hF⟩ | ⟨hc, hF⟩
                      · refine cond_t hS rfl hc ?_
                        refine wp_seq_k fun K126 hK126 => ?_
                        refine wp_region_lit ?_
                        refine st_val hS rfl rfl (by decide) (rv_assign (hS.ev rfl)) fun a hS => ?_
                        refine wpList_nil ?_
                        refine hK126 _ _ ?_
                        refine wp_ret ?_
                        cases hF
                        exact hQr _ _ (r_1 hS rfl rfl ⟨rfl, hM.pick [] (by decide) rfl⟩)
                      · refine cond_f hS rfl hc ?_
                        refine wp_skip ?_
                        refine hK122 _ _ ?_
                        refine wp_seq_k fun K127 hK127 => ?_
                        refine wp_seq_k fun K130 hK130 => ?_
                        refine wp_region_lit ?_
                        refine st_val hS rfl rfl (by decide) (rv_move (hS.ev rfl)) fun a hS => ?_
                        refine st_val hS rfl rfl (by decide) (rv_move (hS.ev rfl)) fun a hS => ?_
                        refine st_val hS rfl rfl (by decide) (rv_neq (hS.ev rfl) (hS.ev rfl)) fun a hS => ?_
                        refine wpList_nil ?_
                        refine hK130 _ _ ?_
                        rcases ite_some hF with ⟨hc, hF⟩ | ⟨hc, hF⟩
                        · refine cond_t hS rfl hc ?_
                          refine wp_seq_k fun K131 hK131 => ?_
                          refine wp_region_lit ?_
                          refine st_val hS rfl rfl (by decide) (rv_assign (hS.ev rfl)) fun a hS => ?_
                          refine wpList_nil ?_
                          refine hK131 _ _ ?_
                          refine wp_ret ?_
                          cases hF
                          exact hQr _ _ (r_1 hS rfl rfl ⟨rfl, hM.pick [] (by decide) rfl⟩)
                        · refine cond_f hS rfl hc ?_
                          refine wp_skip ?_
                          refine hK127 _ _ ?_
                          refine wp_seq_k fun K132 hK132 => ?_
                          refine wp_region_lit ?_
                          refine st_val hS rfl rfl (by decide) (rv_assign (hS.ev rfl)) fun a hS => ?_
                          refine wpList_nil ?_
                          refine hK132 _ _ ?_
                          refine wp_ret ?_
                          cases hF
                          exact hQr _ _ (r_1 hS rfl rfl ⟨rfl, hM.pick [] (by decide) rfl⟩)
                  refine wp_region_lit ?_
                  refine st_val hS rfl rfl (by decide) (rv_load_agg (hS.ev rfl) ty_ag_27 (hM.get 0 rfl) ty_sz_27) fun a hS => ?_
                  refine st_val hS rfl rfl (by decide) (rv_load_agg (hS.ev rfl) ty_ag_27 (hM.get 7 rfl) ty_sz_27) fun a hS => ?_
                  obtain ⟨r133, hr, hF⟩ := bind_some hF
                  refine st_wp hS rfl (wp_call hS rfl rfl (by decide) fn_ok_20 rfl (c_laws_eqGraph F r105.1 r105.2.1 r21.1 r21.2.1 v106 v22 hr _ (rd_of_ow (hM.get 2 rfl)) (rd_of_ow (hM.get 8 rfl))) fun v w a hK hS => ?_)
                  obtain ⟨rfl, hN⟩ := hK
                  have hM := hM.fra hN.fr
                  refine st_val hS rfl rfl (by decide) (rv_not (hS.ev rfl)) fun a hS => ?_
                  refine st_val hS rfl rfl (by decide) (rv_move (hS.ev rfl)) fun a hS => ?_
                  rcases ite_some hF with ⟨hc, hF⟩ | ⟨hc, hF⟩
                  · have hS := hS.setb (t := 88) rfl hc
                    refine st_skip hS rfl rfl (by decide) fun a hS => ?_
                    refine st_skip hS rfl rfl (by decide) fun a hS => ?_
                    refine st_skip hS rfl rfl (by decide) fun a hS => ?_
                    refine st_val hS rfl rfl (by decide) (rv_pick_t (hS.ev rfl) (hS.ev rfl)) fun a hS => ?_
                    refine wpList_nil ?_
                    exact hJ3 true _ _ (hS.sub (sub_cons rfl (sub_cons rfl (sub_cons rfl sub_nil)))) (hM.pick [9, 4] (by decide) rfl) hF
                  · have hS := hS.setb (t := 88) rfl hc
                    refine st_val hS rfl rfl (by decide) (rv_move (hS.ev rfl)) fun a hS => ?_
                    refine st_val hS rfl rfl (by decide) (rv_move (hS.ev rfl)) fun a hS => ?_
                    refine st_val hS rfl rfl (by decide) (rv_bneq Try.underlying4 (hS.ev rfl) (hS.ev rfl)) fun a hS => ?_
                    refine st_val hS rfl rfl (by decide) (rv_pick_f (hS.ev rfl) (hS.ev rfl)) fun a hS => ?_
                    refine wpList_nil ?_
                    exact hJ3 (r105.2.2 != r21.2.2) _ _ (hS.sub (sub_cons rfl (sub_cons rfl (sub_cons rfl sub_nil)))) (hM.pick [9, 4] (by decide) rfl) hF
          refine wp_region_lit ?_
          refine st_val hS rfl rfl (by decide) (rv_move (hS.ev rfl)) fun a hS => ?_
          refine st_val hS rfl rfl (by decide) (rv_lss (hS.ev rfl) (hS.ev rfl)) fun a hS => ?_
          refine st_val hS rfl rfl (by decide) (rv_move (hS.ev rfl)) fun a hS => ?_
          rcases ite_some hF with ⟨hc, hF⟩ | ⟨hc, hF⟩
          · have hS := hS.setb (t := 55) rfl hc
            refine st_skip hS rfl rfl (by decide) fun a hS => ?_
            refine st_skip hS rfl rfl (by decide) fun a hS => ?_
            refine st_skip hS rfl rfl (by decide) fun a hS => ?_
            refine st_skip hS rfl rfl (by decide) fun a hS => ?_
            refine st_val hS rfl rfl (by decide) (rv_pick_t (hS.ev rfl) (hS.ev rfl)) fun a hS => ?_
            refine st_val hS rfl rfl (by decide) (rv_move (hS.ev rfl)) fun a hS => ?_
            refine st_skip hS rfl rfl (by decide) fun a hS => ?_
            refine st_skip hS rfl rfl (by decide) fun a hS => ?_
            refine st_skip hS rfl rfl (by decide) fun a hS => ?_
            refine st_val hS rfl rfl (by decide) (rv_pick_t (hS.ev rfl) (hS.ev rfl)) fun a hS => ?_
            refine wpList_nil ?_
            exact hJ2 true _ _ (hS.sub (sub_cons rfl (sub_cons rfl (sub_cons rfl (sub_cons rfl (sub_cons rfl (sub_cons rfl sub_nil))))))) (hM.pick [2, 3, 4, 5, 7, 8] (by decide) rfl) hF
          · have hS := hS.setb (t := 55) rfl hc
            refine st_val hS rfl rfl (by decide) (rv_load_agg (hS.ev rfl) ty_ag_27 (hM.get 7 rfl) ty_sz_27) fun a hS => ?_
            refine st_val hS rfl rfl (by decide) (rv_load_agg (hS.ev rfl) ty_ag_27 (hM.get 4 rfl) ty_sz_27) fun a hS => ?_
            obtain ⟨r134, hr, hF⟩ := bind_some hF
            refine st_wp hS rfl (wp_call hS rfl rfl (by decide) fn_ok_20 rfl (c_laws_eqGraph F r35.1 r35.2.1 r21.1 r21.2.1 v36 v22 hr _ (rd_of_ow (hM.get 8 rfl)) (rd_of_ow (hM.get 5 rfl))) fun v w a hK hS => ?_)
            obtain ⟨rfl, hN⟩ := hK
            have hM := hM.fra hN.fr
            refine st_val hS rfl rfl (by decide) (rv_not (hS.ev rfl)) fun a hS => ?_
            refine st_val hS rfl rfl (by decide) (rv_pick_f (hS.ev rfl) (hS.ev rfl)) fun a hS => ?_
            refine st_val hS rfl rfl (by decide) (rv_move (hS.ev rfl)) fun a hS => ?_
            rcases ite_some hF with ⟨hc, hF⟩ | ⟨hc, hF⟩
            · have hS := hS.setb (t := 61) rfl hc
              refine st_skip hS rfl rfl (by decide) fun a hS => ?_
              refine st_skip hS rfl rfl (by decide) fun a hS => ?_
              refine st_skip hS rfl rfl (by decide) fun a hS => ?_
              refine st_val hS rfl rfl (by decide) (rv_pick_t (hS.ev rfl) (hS.ev rfl)) fun a hS => ?_
              refine wpList_nil ?_
              exact hJ2 true _ _ (hS.sub (sub_cons rfl (sub_cons rfl (sub_cons rfl (sub_cons rfl (sub_cons rfl (sub_cons rfl sub_nil))))))) (hM.pick [2, 3, 4, 5, 7, 8] (by decide) rfl) hF
            · have hS := hS.setb (t := 61) rfl hc
              refine st_val hS rfl rfl (by decide) (rv_move (hS.ev rfl)) fun a hS => ?_
              refine st_val hS rfl rfl (by decide) (rv_move (hS.ev rfl)) fun a hS => ?_
              refine st_val hS rfl rfl (by decide) (rv_bneq Try.underlying4 (hS.ev rfl) (hS.ev rfl)) fun a hS => ?_
              refine st_val hS rfl rfl (by decide) (rv_pick_f (hS.ev rfl) (hS.ev rfl)) fun a hS => ?_
              refine wpList_nil ?_
              exact hJ2 (r35.2.2 != r21.2.2) _ _ (hS.sub (sub_cons rfl (sub_cons rfl (sub_cons rfl (sub_cons rfl (sub_cons rfl (sub_cons rfl sub_nil))))))) (hM.pick [2, 3, 4, 5, 7, 8] (by decide) rfl) hF
    refine wp_region_lit ?_
    refine st_val hS rfl rfl (by decide) (rv_load_agg (hS.ev rfl) ty_ag_27 (hM.get 0 rfl) ty_sz_27) fun a hS => ?_
    refine st_val hS rfl rfl (by decide) (rv_load_agg (hS.ev rfl) ty_ag_27 (hM.get 6 rfl) ty_sz_27) fun a hS => ?_
    obtain ⟨r135, hr, hF⟩ := bind_some hF
    refine st_wp hS rfl (wp_call hS rfl rfl (by decide) fn_ok_20 rfl (c_laws_eqGraph F r35.1 r35.2.1 r21.1 r21.2.1 v36 v22 hr _ (rd_of_ow (hM.get 2 rfl)) (rd_of_ow (hM.get 8 rfl))) fun v w a hK hS => ?_)
    obtain ⟨rfl, hN⟩ := hK
    have hM := hM.fra hN.fr
    refine st_val hS rfl rfl (by decide) (rv_not (hS.ev rfl)) fun a hS => ?_
    refine st_val hS rfl rfl (by decide) (rv_move (hS.ev rfl)) fun a hS => ?_
    rcases ite_some hF with ⟨hc, hF⟩ | ⟨hc, hF⟩
    · have hS := hS.setb (t := 40) rfl hc
      refine st_skip hS rfl rfl (by decide) fun a hS => ?_
      refine st_skip hS rfl rfl (by decide) fun a hS => ?_
      refine st_skip hS rfl rfl (by decide) fun a hS => ?_
      refine st_val hS rfl rfl (by decide) (rv_pick_t (hS.ev rfl) (hS.ev rfl)) fun a hS => ?_
      refine wpList_nil ?_
      exact hJ1 true _ _ (hS.sub (sub_cons rfl (sub_cons rfl (sub_cons rfl (sub_cons rfl (sub_cons rfl (sub_cons rfl (sub_cons rfl (sub_cons rfl sub_nil))))))))) (hM.pick [10, 11, 6, 8, 3, 5, 0, 2] (by decide) rfl) hF
    · have hS := hS.setb (t := 40) rfl hc
      refine st_val hS rfl rfl (by decide) (rv_move (hS.ev rfl)) fun a hS => ?_
      refine st_val hS rfl rfl (by decide) (rv_move (hS.ev rfl)) fun a hS => ?_
      refine st_val hS rfl rfl (by decide) (rv_bneq Try.underlying4 (hS.ev rfl) (hS.ev rfl)) fun a hS => ?_
      refine st_val hS rfl rfl (by decide) (rv_pick_f (hS.ev rfl) (hS.ev rfl)) fun a hS => ?_
      refine wpList_nil ?_
      exact hJ1 (r35.2.2 != r21.2.2) _ _ (hS.sub (sub_cons rfl (sub_cons rfl (sub_cons rfl (sub_cons rfl (sub_cons rfl (sub_cons rfl (sub_cons rfl (sub_cons rfl sub_nil))))))))) (hM.pick [10, 11, 6, 8, 3, 5, 0, 2] (by decide) rfl) hF


end Go.Proofs.Ytnlabnkgcncmlaa
