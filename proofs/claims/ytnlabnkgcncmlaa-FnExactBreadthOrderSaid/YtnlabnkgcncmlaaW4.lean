/- Proved here: that each Go function does what its shallow function says -/
import Derived.Test.YtnlabnkgcncmlaaSh
import Derived.Test.YtnlabnkgcncmlaaTy
import Derived.Test.YtnlabnkgcncmlaaK9
import Derived.Test.YtnlabnkgcncmlaaW0
import Derived.Test.YtnlabnkgcncmlaaW1
import Derived.Test.YtnlabnkgcncmlaaW2
namespace Go.Proofs.Ytnlabnkgcncmlaa
open Go Go.RowKit
set_option linter.unusedVariables false
set_option linter.unusedSimpArgs false
set_option maxRecDepth 100000
set_option maxHeartbeats 4000000

theorem c_spec_BreadthOrder (F : Nat) (p0_g_Size : Int) (p0_g_Rows : List Int) (p1_start : Int) (p0_g_Rowsv : Value) {r : (List (Int)) × Bool} (hF : S_spec_BreadthOrder F p0_g_Size p0_g_Rows p1_start = some r) (w0 : World) (h0 : RdRow w0 p0_g_Rowsv (List.map (Value.int IntKind.i64) p0_g_Rows)) :
    Calls Try.prog 29 [(Value.agg #[(Value.int IntKind.i64 p0_g_Size), p0_g_Rowsv]), (Value.int IntKind.i64 p1_start)].toArray w0 (retPost fun v w' => ∃ v569, v = (Value.tuple #[v569, (Value.bool r.2)]) ∧ Mem Nob w0 w' [(true, ow 3 v569 (List.map (Value.int IntKind.i64) r.1))]) := by
  have hM : Mem Nob w0 w0 [(false, rd p0_g_Rowsv (List.map (Value.int IntKind.i64) p0_g_Rows))] := (Mem.rcons (Mem.nil w0) h0 (by simp))
  refine enter2 Try.func29 rfl rfl rfl fun Q a hQr hQn hQp hS => ?_
  have hS : Sl 63 [(0, (Value.agg #[(Value.int IntKind.i64 p0_g_Size), p0_g_Rowsv])), (1, (Value.int IntKind.i64 p1_start))] a := hS
  unfold S_spec_BreadthOrder at hF
  refine wp_seq_k fun K1 hK1 => ?_
  refine wp_region_lit ?_
  obtain ⟨b3, w, hr, hM⟩ := hM.boxE (ρ := a.eval) (dst := some 2) (ty := _) (pos := _) (af := _) (gd := _) (x := .tmp 0) (T := 27) [(Value.int IntKind.i64 p0_g_Size), p0_g_Rowsv] (hS.ev rfl) rfl
  refine st_val hS rfl rfl (by decide) hr fun a hS => ?_
  refine st_val hS rfl rfl (by decide) (rv_assign (hS.ev rfl)) fun a hS => ?_
  refine st_val hS rfl rfl (by decide) (rv_assign (hS.ev rfl)) fun a hS => ?_
  refine wpList_nil ?_
  refine hK1 _ _ ?_
  refine wp_seq_k fun K4 hK4 => ?_
  refine wp_seq_k fun K12 hK12 => ?_
  have hJ1 : ∀ (p14 : Bool) (a : Act) (w : World), Sl 63 [(1, (Value.int IntKind.i64 p1_start)), (2, (fdp b3 0)), (22, (Value.bool p14))] a → Mem Nob w0 w [(true, bx b3 27 [(Value.int IntKind.i64 p0_g_Size), p0_g_Rowsv]), (false, rd p0_g_Rowsv (List.map (Value.int IntKind.i64) p0_g_Rows))] → S_spec_BreadthOrder_j1 F p0_g_Size p0_g_Rows p1_start p14 = some r → K12 a w := by
    intro p14 a w hS hM hF
    unfold S_spec_BreadthOrder_j1 at hF
    refine hK12 _ _ ?_
    rcases ite_some hF with ⟨hc, hF⟩ | ⟨hc, hF⟩
    · refine cond_t hS rfl hc ?_
      refine wp_seq_k fun K15 hK15 => ?_
      refine wp_region_lit ?_
      obtain ⟨v17, w, hr, hM⟩ := Mem.litE (f := (Value.int IntKind.i64)) (dst := some 23) (ty := _) (pos := _) (af := _) (gd := _) (ps := []) ([] : List (Int)) i64_one hM hS Try.underlying22 ty_el_3 rfl rfl rfl rfl
      refine st_val hS rfl rfl (by decide) hr fun a hS => ?_
      refine st_val hS rfl rfl (by decide) (rv_assign (hS.ev rfl)) fun a hS => ?_
      refine st_val hS rfl rfl (by decide) (rv_assign (hS.ev rfl)) fun a hS => ?_
      refine wpList_nil ?_
      refine hK15 _ _ ?_
      refine wp_ret ?_
      cases hF
      exact hQr _ _ (r_2 hS rfl rfl rfl ⟨v17, rfl, hM.pick [0] (by decide) rfl⟩)
    · refine cond_f hS rfl hc ?_
      refine wp_skip ?_
      refine hK4 _ _ ?_
      refine wp_seq_k fun K18 hK18 => ?_
      refine wp_region_lit ?_
      refine st_val hS rfl rfl (by decide) (rv_move (hS.ev rfl)) fun a hS => ?_
      obtain ⟨v20, w, hr, hM⟩ := Mem.litE (f := (Value.int IntKind.i64)) (dst := some 25) (ty := _) (pos := _) (af := _) (gd := _) (ps := [(0, .tmp 24)]) ([p1_start] : List (Int)) i64_one hM hS Try.underlying22 ty_el_3 rfl rfl rfl rfl
      refine st_val hS rfl rfl (by decide) hr fun a hS => ?_
      refine st_val hS rfl rfl (by decide) (rv_assign (hS.ev rfl)) fun a hS => ?_
      refine wpList_nil ?_
      refine hK18 _ _ ?_
      refine wp_seq_k fun K21 hK21 => ?_
      refine wp_region_lit ?_
      refine st_val hS rfl rfl (by decide) (rv_move (hS.ev rfl)) fun a hS => ?_
      obtain ⟨_, hx, hF⟩ := bind_some hF
      have hi0 := nnO_some hx
      refine st_val hS rfl rfl (by decide) (rv_shl (hS.ev rfl) (hS.ev rfl) hi0) fun a hS => ?_
      refine st_val hS rfl rfl (by decide) (rv_assign (hS.ev rfl)) fun a hS => ?_
      refine wpList_nil ?_
      refine hK21 _ _ ?_
      refine wp_seq_k fun K22 hK22 => ?_
      have hJ2 : ∀ (l295 : List Int) (v294 : Value) (a : Act) (w : World), Sl 63 [(6, v294)] a → Mem Nob w0 w [(true, ow 3 v294 (List.map (Value.int IntKind.i64) l295))] → S_spec_BreadthOrder_j2 F l295 = some r → K22 a w := by
        intro l295 v294 a w hS hM hF
        unfold S_spec_BreadthOrder_j2 at hF
        refine hK22 _ _ ?_
        refine wp_seq_k fun K296 hK296 => ?_
        refine wp_region_lit ?_
        refine st_val hS rfl rfl (by decide) (rv_move (hS.ev rfl)) fun a hS => ?_
        refine st_val hS rfl rfl (by decide) (rv_assign (hS.ev rfl)) fun a hS => ?_
        refine st_val hS rfl rfl (by decide) (rv_assign (hS.ev rfl)) fun a hS => ?_
        refine wpList_nil ?_
        refine hK296 _ _ ?_
        refine wp_ret ?_
        cases hF
        exact hQr _ _ (r_2 hS rfl rfl rfl ⟨v294, rfl, hM.pick [0] (by decide) rfl⟩)
      refine wp_seq_k fun K297 hK297 => ?_
      refine wp_region_lit ?_
      refine st_val hS rfl rfl (by decide) (rv_assign (hS.ev rfl)) fun a hS => ?_
      refine wpList_nil ?_
      refine hK297 _ _ ?_
      refine wp_block ?_
      obtain ⟨lb3, hl3, hF3⟩ := bind_some hF
      refine wp_loop_sh (fun s => S_spec_BreadthOrder_l3 F p0_g_Size p0_g_Rows s.1 s.2.1 s.2.2) (fun s a w => ∃ (v298 : Value), Sl 63 [(2, (fdp b3 0)), (6, v298), (7, (Value.int IntKind.i64 s.2.1)), (8, (Value.int IntKind.i64 s.2.2))] a ∧ Mem Nob w0 w [(true, bx b3 27 [(Value.int IntKind.i64 p0_g_Size), p0_g_Rowsv]), (false, rd p0_g_Rowsv (List.map (Value.int IntKind.i64) p0_g_Rows)), (true, ow 3 v298 (List.map (Value.int IntKind.i64) s.1))]) hl3 ⟨v20, (hS.sub (sub_cons rfl (sub_cons rfl (sub_cons rfl (sub_cons rfl sub_nil))))), (hM.pick [1, 2, 0] (by decide) rfl)⟩ ?_
      rintro K3 ⟨l299, x300, x301⟩ a w res3 ⟨v298, hS, hM⟩ hF hN3 hX3
      have hF : S_spec_BreadthOrder_l3 F p0_g_Size p0_g_Rows l299 x300 x301 = some res3 := hF
      have hS : Sl 63 [(2, (fdp b3 0)), (6, v298), (7, (Value.int IntKind.i64 x300)), (8, (Value.int IntKind.i64 x301))] a := hS
      have hM : Mem Nob w0 w [(true, bx b3 27 [(Value.int IntKind.i64 p0_g_Size), p0_g_Rowsv]), (false, rd p0_g_Rowsv (List.map (Value.int IntKind.i64) p0_g_Rows)), (true, ow 3 v298 (List.map (Value.int IntKind.i64) l299))] := hM
      unfold S_spec_BreadthOrder_l3 at hF
      refine wp_seq_k fun K435 hK435 => ?_
      refine wp_seq_k fun K437 hK437 => ?_
      refine wp_region_lit ?_
      refine st_val hS rfl rfl (by decide) (rv_move (hS.ev rfl)) fun a hS => ?_
      refine st_val hS rfl rfl (by decide) (rv_move (hS.ev rfl)) fun a hS => ?_
      refine st_val hS rfl rfl (by decide) (rv_len_rowM Try.underlying22 (hS.ev rfl) (rd_of_ow (hM.get 2 rfl))) fun a hS => ?_
      refine st_val hS rfl rfl (by decide) (rv_lss (hS.ev rfl) (hS.ev rfl)) fun a hS => ?_
      refine wpList_nil ?_
      refine hK437 _ _ ?_
      rcases ite_some hF with ⟨hc, hF⟩ | ⟨hc, hF⟩
      · refine cond_t hS rfl hc ?_
        refine wp_skip ?_
        refine hK435 _ _ ?_
        refine wp_seq_k fun K438 hK438 => ?_
        have hJ4 : ∀ (l503 : List Int) (x504 : Int) (v502 : Value) (a : Act) (w : World), Sl 63 [(2, (fdp b3 0)), (6, v502), (7, (Value.int IntKind.i64 x504)), (8, (Value.int IntKind.i64 x301))] a → Mem Nob w0 w [(true, bx b3 27 [(Value.int IntKind.i64 p0_g_Size), p0_g_Rowsv]), (false, rd p0_g_Rowsv (List.map (Value.int IntKind.i64) p0_g_Rows)), (true, ow 3 v502 (List.map (Value.int IntKind.i64) l503))] → S_spec_BreadthOrder_j4 F x301 l503 x504 = some res3 → K438 a w := by
          intro l503 x504 v502 a w hS hM hF
          unfold S_spec_BreadthOrder_j4 at hF
          refine hK438 _ _ ?_
          refine wp_region_lit ?_
          refine st_val hS rfl rfl (by decide) (rv_move (hS.ev rfl)) fun a hS => ?_
          refine st_val hS rfl rfl (by decide) (rv_add (hS.ev rfl) (hS.ev rfl)) fun a hS => ?_
          refine st_val hS rfl rfl (by decide) (rv_assign (hS.ev rfl)) fun a hS => ?_
          refine wpList_nil ?_
          cases hF
          exact hN3 _ _ _ rfl ⟨v502, (hS.sub (sub_cons rfl (sub_cons rfl (sub_cons rfl (sub_cons rfl sub_nil))))), (hM.pick [0, 1, 2] (by decide) rfl)⟩
        refine wp_block ?_
        refine wp_seq_k fun K505 hK505 => ?_
        refine wp_region_lit ?_
        refine st_val hS rfl rfl (by decide) (rv_assign (hS.ev rfl)) fun a hS => ?_
        refine wpList_nil ?_
        refine hK505 _ _ ?_
        refine wp_block ?_
        obtain ⟨lb5, hl5, hF5⟩ := bind_some hF
        refine wp_loop_sh (fun s => S_spec_BreadthOrder_l5 F p0_g_Size p0_g_Rows x301 s.1 s.2.1 s.2.2) (fun s a w => ∃ (v506 : Value), Sl 63 [(2, (fdp b3 0)), (6, v506), (7, (Value.int IntKind.i64 s.2.1)), (8, (Value.int IntKind.i64 x301)), (9, (Value.int IntKind.i64 s.2.2))] a ∧ Mem Nob w0 w [(true, bx b3 27 [(Value.int IntKind.i64 p0_g_Size), p0_g_Rowsv]), (false, rd p0_g_Rowsv (List.map (Value.int IntKind.i64) p0_g_Rows)), (true, ow 3 v506 (List.map (Value.int IntKind.i64) s.1))]) hl5 ⟨v298, (hS.sub (sub_cons rfl (sub_cons rfl (sub_cons rfl (sub_cons rfl (sub_cons rfl sub_nil)))))), (hM.pick [0, 1, 2] (by decide) rfl)⟩ ?_
        rintro K5 ⟨l507, x508, x509⟩ a w res5 ⟨v506, hS, hM⟩ hF hN5 hX5
        have hF : S_spec_BreadthOrder_l5 F p0_g_Size p0_g_Rows x301 l507 x508 x509 = some res5 := hF
        have hS : Sl 63 [(2, (fdp b3 0)), (6, v506), (7, (Value.int IntKind.i64 x508)), (8, (Value.int IntKind.i64 x301)), (9, (Value.int IntKind.i64 x509))] a := hS
        have hM : Mem Nob w0 w [(true, bx b3 27 [(Value.int IntKind.i64 p0_g_Size), p0_g_Rowsv]), (false, rd p0_g_Rowsv (List.map (Value.int IntKind.i64) p0_g_Rows)), (true, ow 3 v506 (List.map (Value.int IntKind.i64) l507))] := hM
        unfold S_spec_BreadthOrder_l5 at hF
        refine wp_seq_k fun K539 hK539 => ?_
        refine wp_seq_k fun K541 hK541 => ?_
        refine wp_region_lit ?_
        refine st_val hS rfl rfl (by decide) (rv_move (hS.ev rfl)) fun a hS => ?_
        refine st_val hS rfl rfl (by decide) (rv_fieldAddr ty_fd_27_0 (hS.ev rfl)) fun a hS => ?_
        refine st_val hS rfl rfl (by decide) (rv_load_bx (hS.ev rfl) ty_ag_3 (hM.get 0 rfl) rfl) fun a hS => ?_
        refine st_val hS rfl rfl (by decide) (rv_lss (hS.ev rfl) (hS.ev rfl)) fun a hS => ?_
        refine wpList_nil ?_
        refine hK541 _ _ ?_
        rcases ite_some hF with ⟨hc, hF⟩ | ⟨hc, hF⟩
        · refine cond_t hS rfl hc ?_
          refine wp_skip ?_
          refine hK539 _ _ ?_
          refine wp_seq_k fun K542 hK542 => ?_
          have hJ6 : ∀ (l555 : List Int) (x556 : Int) (v554 : Value) (a : Act) (w : World), Sl 63 [(2, (fdp b3 0)), (6, v554), (7, (Value.int IntKind.i64 x556)), (8, (Value.int IntKind.i64 x301)), (9, (Value.int IntKind.i64 x509))] a → Mem Nob w0 w [(true, bx b3 27 [(Value.int IntKind.i64 p0_g_Size), p0_g_Rowsv]), (false, rd p0_g_Rowsv (List.map (Value.int IntKind.i64) p0_g_Rows)), (true, ow 3 v554 (List.map (Value.int IntKind.i64) l555))] → S_spec_BreadthOrder_j6 F x509 l555 x556 = some res5 → K542 a w := by
            intro l555 x556 v554 a w hS hM hF
            unfold S_spec_BreadthOrder_j6 at hF
            refine hK542 _ _ ?_
            refine wp_region_lit ?_
            refine st_val hS rfl rfl (by decide) (rv_move (hS.ev rfl)) fun a hS => ?_
            refine st_val hS rfl rfl (by decide) (rv_add (hS.ev rfl) (hS.ev rfl)) fun a hS => ?_
            refine st_val hS rfl rfl (by decide) (rv_assign (hS.ev rfl)) fun a hS => ?_
            refine wpList_nil ?_
            cases hF
            exact hN5 _ _ _ rfl ⟨v554, (hS.sub (sub_cons rfl (sub_cons rfl (sub_cons rfl (sub_cons rfl (sub_cons rfl sub_nil)))))), (hM.pick [0, 1, 2] (by decide) rfl)⟩
          refine wp_block ?_
          refine wp_seq_k fun K557 hK557 => ?_
          have hJ7 : ∀ (p560 : Bool) (a : Act) (w : World), Sl 63 [(2, (fdp b3 0)), (6, v506), (7, (Value.int IntKind.i64 x508)), (8, (Value.int IntKind.i64 x301)), (9, (Value.int IntKind.i64 x509)), (53, (Value.bool p560))] a → Mem Nob w0 w [(true, bx b3 27 [(Value.int IntKind.i64 p0_g_Size), p0_g_Rowsv]), (false, rd p0_g_Rowsv (List.map (Value.int IntKind.i64) p0_g_Rows)), (true, ow 3 v506 (List.map (Value.int IntKind.i64) l507))] → S_spec_BreadthOrder_j7 F l507 x508 x509 p560 = some res5 → K557 a w := by
            intro p560 a w hS hM hF
            unfold S_spec_BreadthOrder_j7 at hF
            refine hK557 _ _ ?_
            rcases ite_some hF with ⟨hc, hF⟩ | ⟨hc, hF⟩
            · refine cond_t hS rfl hc ?_
              refine wp_seq_k fun K561 hK561 => ?_
              refine wp_region_lit ?_
              refine st_val hS rfl rfl (by decide) (rv_move (hS.ev rfl)) fun a hS => ?_
              refine st_val hS rfl rfl (by decide) (rv_move (hS.ev rfl)) fun a hS => ?_
              obtain ⟨v564, w, hr, hM⟩ := Mem.litE (f := (Value.int IntKind.i64)) (dst := some 56) (ty := _) (pos := _) (af := _) (gd := _) (ps := [(0, .tmp 55)]) ([x509] : List (Int)) i64_one hM hS Try.underlying22 ty_el_3 rfl rfl rfl rfl
              refine st_val hS rfl rfl (by decide) hr fun a hS => ?_
              obtain ⟨_, hx, hF⟩ := bind_some hF
              have hM := hM.pick [3, 0, 1, 2] (by decide) rfl
              obtain ⟨v565, w, hr, hM⟩ := Mem.appE (f := (Value.int IntKind.i64)) (S := _) (R := [(true, ow 3 v564 (List.map (Value.int IntKind.i64) ([x509] : List (Int)))), (true, bx b3 27 [(Value.int IntKind.i64 p0_g_Size), p0_g_Rowsv]), (false, rd p0_g_Rowsv (List.map (Value.int IntKind.i64) p0_g_Rows))]) (ρ := a.eval) (dst := some 57) (ty := _) (pos := _) (af := _) (gd := _) (x := .tmp 54) (y := .tmp 56) i64_one hM Try.underlying22 ty_el_3 rfl (by decide) (hS.ev rfl) (hS.ev rfl) (rd_of_ow (hM.get 1 rfl)) (catO_some hx)
              refine st_val hS rfl rfl (by decide) hr fun a hS => ?_
              refine st_val hS rfl rfl (by decide) (rv_assign (hS.ev rfl)) fun a hS => ?_
              refine wpList_nil ?_
              refine hK561 _ _ ?_
              refine wp_region_lit ?_
              refine st_val hS rfl rfl (by decide) (rv_move (hS.ev rfl)) fun a hS => ?_
              refine st_val hS rfl rfl (by decide) (rv_move (hS.ev rfl)) fun a hS => ?_
              obtain ⟨_, hx, hF⟩ := bind_some hF
              have hi0 := nnO_some hx
              refine st_val hS rfl rfl (by decide) (rv_shl (hS.ev rfl) (hS.ev rfl) hi0) fun a hS => ?_
              refine st_val hS rfl rfl (by decide) (rv_add (hS.ev rfl) (hS.ev rfl)) fun a hS => ?_
              refine st_val hS rfl rfl (by decide) (rv_assign (hS.ev rfl)) fun a hS => ?_
              refine wpList_nil ?_
              exact hJ6 (l507 ++ ([x509] : List (Int))) (IntKind.i64.wrap (x508 + (shL 1 x509))) v565 _ _ (hS.sub (sub_cons rfl (sub_cons rfl (sub_cons rfl (sub_cons rfl (sub_cons rfl sub_nil)))))) (hM.pick [2, 3, 0] (by decide) rfl) hF
            · refine cond_f hS rfl hc ?_
              refine wp_skip ?_
              exact hJ6 l507 x508 v506 _ _ (hS.sub (sub_cons rfl (sub_cons rfl (sub_cons rfl (sub_cons rfl (sub_cons rfl sub_nil)))))) (hM.pick [0, 1, 2] (by decide) rfl) hF
          refine an_start Nob ty_mixed fun w hf => ?_
          have hM := hM.fra hf
          have hB := hM
          have hM := hB.reg0
          refine an_take hS (i := 0) rfl (by kernel_rfl) (by kernel_rfl) (by kernel_rfl) rfl (by decide) (fun c a a' w hd h => hQp c a a' w hd h) rfl (fun w' hC' => (rv_move (hS.ev rfl))) hM.fr fun a hS => ?_
          refine an_take hS (i := 1) rfl (by kernel_rfl) (by kernel_rfl) (by kernel_rfl) rfl (by decide) (fun c a a' w hd h => hQp c a a' w hd h) rfl (fun w' hC' => (rv_move (hS.ev rfl))) hM.fr fun a hS => ?_
          obtain ⟨_, hx, hF⟩ := bind_some hF
          have hi0 := nnO_some hx
          refine an_take hS (i := 2) rfl (by kernel_rfl) (by kernel_rfl) (by kernel_rfl) rfl (by decide) (fun c a a' w hd h => hQp c a a' w hd h) rfl (fun w' hC' => (rv_shr (hS.ev rfl) (hS.ev rfl) hi0)) hM.fr fun a hS => ?_
          refine an_take hS (i := 3) rfl (by kernel_rfl) (by kernel_rfl) (by kernel_rfl) rfl (by decide) (fun c a a' w hd h => hQp c a a' w hd h) rfl (fun w' hC' => (rv_and (hS.ev rfl) (hS.ev rfl))) hM.fr fun a hS => ?_
          refine an_take hS (i := 4) rfl (by kernel_rfl) (by kernel_rfl) (by kernel_rfl) rfl (by decide) (fun c a a' w hd h => hQp c a a' w hd h) rfl (fun w' hC' => (rv_eql (hS.ev rfl) (hS.ev rfl))) hM.fr fun a hS => ?_
          refine an_take hS (i := 5) rfl (by kernel_rfl) (by kernel_rfl) (by kernel_rfl) rfl (by decide) (fun c a a' w hd h => hQp c a a' w hd h) rfl (fun w' hC' => (rv_move (hS.ev rfl))) hM.fr fun a hS => ?_
          rcases ite_some hF with ⟨hc, hF⟩ | ⟨hc, hF⟩
          · have hS := hS.setb (t := 45) rfl hc
            refine an_take hS (i := 6) rfl (by kernel_rfl) (by kernel_rfl) (by kernel_rfl) rfl (by decide) (fun c a a' w hd h => hQp c a a' w hd h) rfl (fun w' hC' => (rv_load_agg (hS.ev rfl) ty_ag_27 ((hB.fra hC').get 0 rfl) ty_sz_27)) hM.fr fun a hS => ?_
            refine an_take hS (i := 7) rfl (by kernel_rfl) (by kernel_rfl) (by kernel_rfl) rfl (by decide) (fun c a a' w hd h => hQp c a a' w hd h) rfl (fun w' hC' => (rv_move (hS.ev rfl))) hM.fr fun a hS => ?_
            refine an_take hS (i := 8) rfl (by kernel_rfl) (by kernel_rfl) (by kernel_rfl) rfl (by decide) (fun c a a' w hd h => hQp c a a' w hd h) rfl (fun w' hC' => (rv_move (hS.ev rfl))) hM.fr fun a hS => ?_
            obtain ⟨x566, hx, hF⟩ := bind_some hF
            obtain ⟨hi0, hi1, hex566⟩ := idxL_some hx
            refine an_take hS (i := 9) rfl (by kernel_rfl) (by kernel_rfl) (by kernel_rfl) rfl (by decide) (fun c a a' w hd h => hQp c a a' w hd h) rfl (fun w' hC' => (rv_indexAddr Try.underlying22 ty_el_3 (hS.ev rfl) (hS.ev rfl) (rd_of_ow (hM.get 2 rfl)) hi0 (map_len hi1))) hM.fr fun a hS => ?_
            refine an_take hS (i := 10) rfl (by kernel_rfl) (by kernel_rfl) (by kernel_rfl) rfl (by decide) (fun c a a' w hd h => hQp c a a' w hd h) rfl (fun w' hC' => (rv_load_el (hS.ev rfl) ty_ag_3 (rd_of_ow ((hB.fra hC').get 2 rfl)) (mget hex566))) hM.fr fun a hS => ?_
            refine an_take hS (i := 11) rfl (by kernel_rfl) (by kernel_rfl) (by kernel_rfl) rfl (by decide) (fun c a a' w hd h => hQp c a a' w hd h) rfl (fun w' hC' => (rv_move (hS.ev rfl))) hM.fr fun a hS => ?_
            obtain ⟨r567, hr, hF⟩ := bind_some hF
            refine an_one hS (i := 12) rfl (by kernel_rfl) rfl ?_
            refine wp_call hS rfl rfl (by decide) fn_ok_62 rfl (c_spec_l2Edge F p0_g_Size p0_g_Rows x566 x509 p0_g_Rowsv hr _ (hM.get 1 rfl)) fun v w a hK hS => ?_
            obtain ⟨rfl, hN⟩ := hK
            have hM := hM.fra hN.fr
            refine ⟨hM.fr, ?_⟩
            refine an_take hS (i := 13) rfl (by kernel_rfl) (by kernel_rfl) (by kernel_rfl) rfl (by decide) (fun c a a' w hd h => hQp c a a' w hd h) rfl (fun w' hC' => (rv_pick_t (hS.ev rfl) (hS.ev rfl))) hM.fr fun a hS => ?_
            refine an_done (by kernel_rfl) ?_
            have hN := hM.pick [] (by decide) rfl
            have hM := Mem.callo (A := []) (B := [(true, bx b3 27 [(Value.int IntKind.i64 p0_g_Size), p0_g_Rowsv]), (false, rd p0_g_Rowsv (List.map (Value.int IntKind.i64) p0_g_Rows)), (true, ow 3 v506 (List.map (Value.int IntKind.i64) l507))]) hB rfl (hN.memS fun _ h => h.elim) rfl
            exact hJ7 r567 _ _ (hS.sub (sub_cons rfl (sub_cons rfl (sub_cons rfl (sub_cons rfl (sub_cons rfl (sub_cons rfl sub_nil))))))) (hM.pick [0, 1, 2] (by decide) rfl) hF
          · have hS := hS.setb (t := 45) rfl hc
            refine an_skip hS (i := 6) rfl (by kernel_rfl) (by kernel_rfl) (by kernel_rfl) rfl (by decide) (fun c a a' w hd h => hQp c a a' w hd h) rfl hM.fr fun a hS => ?_
            refine an_skip hS (i := 7) rfl (by kernel_rfl) (by kernel_rfl) (by kernel_rfl) rfl (by decide) (fun c a a' w hd h => hQp c a a' w hd h) rfl hM.fr fun a hS => ?_
            refine an_skip hS (i := 8) rfl (by kernel_rfl) (by kernel_rfl) (by kernel_rfl) rfl (by decide) (fun c a a' w hd h => hQp c a a' w hd h) rfl hM.fr fun a hS => ?_
            refine an_skip hS (i := 9) rfl (by kernel_rfl) (by kernel_rfl) (by kernel_rfl) rfl (by decide) (fun c a a' w hd h => hQp c a a' w hd h) rfl hM.fr fun a hS => ?_
            refine an_skip hS (i := 10) rfl (by kernel_rfl) (by kernel_rfl) (by kernel_rfl) rfl (by decide) (fun c a a' w hd h => hQp c a a' w hd h) rfl hM.fr fun a hS => ?_
            refine an_skip hS (i := 11) rfl (by kernel_rfl) (by kernel_rfl) (by kernel_rfl) rfl (by decide) (fun c a a' w hd h => hQp c a a' w hd h) rfl hM.fr fun a hS => ?_
            refine an_skip hS (i := 12) rfl (by kernel_rfl) (by kernel_rfl) (by kernel_rfl) rfl (by decide) (fun c a a' w hd h => hQp c a a' w hd h) rfl hM.fr fun a hS => ?_
            refine an_take hS (i := 13) rfl (by kernel_rfl) (by kernel_rfl) (by kernel_rfl) rfl (by decide) (fun c a a' w hd h => hQp c a a' w hd h) rfl (fun w' hC' => (rv_pick_f (hS.ev rfl) (hS.ev rfl))) hM.fr fun a hS => ?_
            refine an_done (by kernel_rfl) ?_
            have hN := hM.pick [] (by decide) rfl
            have hM := Mem.callo (A := []) (B := [(true, bx b3 27 [(Value.int IntKind.i64 p0_g_Size), p0_g_Rowsv]), (false, rd p0_g_Rowsv (List.map (Value.int IntKind.i64) p0_g_Rows)), (true, ow 3 v506 (List.map (Value.int IntKind.i64) l507))]) hB rfl (hN.memS fun _ h => h.elim) rfl
            exact hJ7 false _ _ (hS.sub (sub_cons rfl (sub_cons rfl (sub_cons rfl (sub_cons rfl (sub_cons rfl (sub_cons rfl sub_nil))))))) (hM.pick [0, 1, 2] (by decide) rfl) hF
        · refine cond_f hS rfl hc ?_
          refine wp_exit ?_
          cases hF
          exact hJ4 l507 x508 v506 _ _ (hS.sub (sub_cons rfl (sub_cons rfl (sub_cons rfl (sub_cons rfl sub_nil))))) (hM.pick [0, 1, 2] (by decide) rfl) (by have e := hX5 _ rfl; subst e; exact hF5)
      · refine cond_f hS rfl hc ?_
        refine wp_exit ?_
        cases hF
        exact hJ2 l299 v298 _ _ (hS.sub (sub_cons rfl sub_nil)) (hM.pick [2] (by decide) rfl) (by have e := hX3 _ rfl; subst e; exact hF3)
  refine wp_region_lit ?_
  refine st_val hS rfl rfl (by decide) (rv_load_agg (hS.ev rfl) ty_ag_27 (hM.get 0 rfl) ty_sz_27) fun a hS => ?_
  obtain ⟨r568, hr, hF⟩ := bind_some hF
  refine st_wp hS rfl (wp_call hS rfl rfl (by decide) fn_ok_52 rfl (c_spec_IsGraph F p0_g_Size p0_g_Rows p0_g_Rowsv hr _ (hM.get 1 rfl)) fun v w a hK hS => ?_)
  obtain ⟨rfl, hN⟩ := hK
  have hM := hM.fra hN.fr
  refine st_val hS rfl rfl (by decide) (rv_not (hS.ev rfl)) fun a hS => ?_
  refine st_val hS rfl rfl (by decide) (rv_move (hS.ev rfl)) fun a hS => ?_
  rcases ite_some hF with ⟨hc, hF⟩ | ⟨hc, hF⟩
  · have hS := hS.setb (t := 13) rfl hc
    refine st_skip hS rfl rfl (by decide) fun a hS => ?_
    refine st_skip hS rfl rfl (by decide) fun a hS => ?_
    refine st_val hS rfl rfl (by decide) (rv_pick_t (hS.ev rfl) (hS.ev rfl)) fun a hS => ?_
    refine st_val hS rfl rfl (by decide) (rv_move (hS.ev rfl)) fun a hS => ?_
    refine st_skip hS rfl rfl (by decide) fun a hS => ?_
    refine st_skip hS rfl rfl (by decide) fun a hS => ?_
    refine st_skip hS rfl rfl (by decide) fun a hS => ?_
    refine st_skip hS rfl rfl (by decide) fun a hS => ?_
    refine st_val hS rfl rfl (by decide) (rv_pick_t (hS.ev rfl) (hS.ev rfl)) fun a hS => ?_
    refine wpList_nil ?_
    exact hJ1 true _ _ (hS.sub (sub_cons rfl (sub_cons rfl (sub_cons rfl sub_nil)))) (hM.pick [0, 1] (by decide) rfl) hF
  · have hS := hS.setb (t := 13) rfl hc
    refine st_val hS rfl rfl (by decide) (rv_move (hS.ev rfl)) fun a hS => ?_
    refine st_val hS rfl rfl (by decide) (rv_lss (hS.ev rfl) (hS.ev rfl)) fun a hS => ?_
    refine st_val hS rfl rfl (by decide) (rv_pick_f (hS.ev rfl) (hS.ev rfl)) fun a hS => ?_
    refine st_val hS rfl rfl (by decide) (rv_move (hS.ev rfl)) fun a hS => ?_
    rcases ite_some hF with ⟨hc, hF⟩ | ⟨hc, hF⟩
    · have hS := hS.setb (t := 17) rfl hc
      refine st_skip hS rfl rfl (by decide) fun a hS => ?_
      refine st_skip hS rfl rfl (by decide) fun a hS => ?_
      refine st_skip hS rfl rfl (by decide) fun a hS => ?_
      refine st_skip hS rfl rfl (by decide) fun a hS => ?_
      refine st_val hS rfl rfl (by decide) (rv_pick_t (hS.ev rfl) (hS.ev rfl)) fun a hS => ?_
      refine wpList_nil ?_
      exact hJ1 true _ _ (hS.sub (sub_cons rfl (sub_cons rfl (sub_cons rfl sub_nil)))) (hM.pick [0, 1] (by decide) rfl) hF
    · have hS := hS.setb (t := 17) rfl hc
      refine st_val hS rfl rfl (by decide) (rv_move (hS.ev rfl)) fun a hS => ?_
      refine st_val hS rfl rfl (by decide) (rv_fieldAddr ty_fd_27_0 (hS.ev rfl)) fun a hS => ?_
      refine st_val hS rfl rfl (by decide) (rv_load_bx (hS.ev rfl) ty_ag_3 (hM.get 0 rfl) rfl) fun a hS => ?_
      refine st_val hS rfl rfl (by decide) (rv_geq (hS.ev rfl) (hS.ev rfl)) fun a hS => ?_
      refine st_val hS rfl rfl (by decide) (rv_pick_f (hS.ev rfl) (hS.ev rfl)) fun a hS => ?_
      refine wpList_nil ?_
      exact hJ1 (decide (p0_g_Size ≤ p1_start)) _ _ (hS.sub (sub_cons rfl (sub_cons rfl (sub_cons rfl sub_nil)))) (hM.pick [0, 1] (by decide) rfl) hF


theorem c_impl_isVertex (F : Nat) (p0_g_Size : Int) (p0_g_Rows : List Int) (p1_vertices : List Int) (p0_g_Rowsv : Value) (p1_verticesv : Value) {r : Bool} (hF : S_impl_isVertex F p0_g_Size p0_g_Rows p1_vertices = some r) (w0 : World) (h0 : RdRow w0 p0_g_Rowsv (List.map (Value.int IntKind.i64) p0_g_Rows)) (h1 : RdRow w0 p1_verticesv (List.map (Value.int IntKind.i64) p1_vertices)) :
    Calls Try.prog 63 [(Value.agg #[(Value.int IntKind.i64 p0_g_Size), p0_g_Rowsv]), p1_verticesv].toArray w0 (retPost fun v w' => v = (Value.bool r) ∧ Mem Nob w0 w' []) := by
  have hM : Mem Nob w0 w0 [(false, rd p0_g_Rowsv (List.map (Value.int IntKind.i64) p0_g_Rows)), (false, rd p1_verticesv (List.map (Value.int IntKind.i64) p1_vertices))] := (Mem.rcons (Mem.rcons (Mem.nil w0) h1 (by simp)) h0 (by simp))
  refine enter2 Try.func63 rfl rfl rfl fun Q a hQr hQn hQp hS => ?_
  have hS : Sl 22 [(0, (Value.agg #[(Value.int IntKind.i64 p0_g_Size), p0_g_Rowsv])), (1, p1_verticesv)] a := hS
  unfold S_impl_isVertex at hF
  refine wp_seq_k fun K1 hK1 => ?_
  refine wp_region_lit ?_
  obtain ⟨b3, w, hr, hM⟩ := hM.boxE (ρ := a.eval) (dst := some 2) (ty := _) (pos := _) (af := _) (gd := _) (x := .tmp 0) (T := 27) [(Value.int IntKind.i64 p0_g_Size), p0_g_Rowsv] (hS.ev rfl) rfl
  refine st_val hS rfl rfl (by decide) hr fun a hS => ?_
  refine st_val hS rfl rfl (by decide) (rv_assign (hS.ev rfl)) fun a hS => ?_
  refine wpList_nil ?_
  refine hK1 _ _ ?_
  refine wp_seq_k fun K4 hK4 => ?_
  have hJ1 : ∀ (a : Act) (w : World), Sl 22 [(2, (fdp b3 0))] a → Mem Nob w0 w [(true, bx b3 27 [(Value.int IntKind.i64 p0_g_Size), p0_g_Rowsv]), (false, rd p0_g_Rowsv (List.map (Value.int IntKind.i64) p0_g_Rows))] → S_impl_isVertex_j1 F p0_g_Size p0_g_Rows = some r → K4 a w := by
    intro a w hS hM hF
    unfold S_impl_isVertex_j1 at hF
    refine hK4 _ _ ?_
    refine wp_seq_k fun K41 hK41 => ?_
    refine wp_region_lit ?_
    refine st_val hS rfl rfl (by decide) (rv_load_agg (hS.ev rfl) ty_ag_27 (hM.get 0 rfl) ty_sz_27) fun a hS => ?_
    obtain ⟨r43, hr, hF⟩ := bind_some hF
    refine st_wp hS rfl (wp_call hS rfl rfl (by decide) fn_ok_54 rfl (c_impl_IsGraph F p0_g_Size p0_g_Rows p0_g_Rowsv hr _ (hM.get 1 rfl)) fun v w a hK hS => ?_)
    obtain ⟨rfl, hN⟩ := hK
    have hM := hM.fra hN.fr
    refine st_val hS rfl rfl (by decide) (rv_assign (hS.ev rfl)) fun a hS => ?_
    refine wpList_nil ?_
    refine hK41 _ _ ?_
    refine wp_ret ?_
    cases hF
    exact hQr _ _ (r_1 hS rfl rfl ⟨rfl, hM.pick [] (by decide) rfl⟩)
  refine wp_seq_k fun K44 hK44 => ?_
  refine wp_region_lit ?_
  refine st_val hS rfl rfl (by decide) (rv_move (hS.ev rfl)) fun a hS => ?_
  refine st_val hS rfl rfl (by decide) (rv_len_rowM Try.underlying22 (hS.ev rfl) (hM.get 2 rfl)) fun a hS => ?_
  refine st_val hS rfl rfl (by decide) (rv_move (hS.ev rfl)) fun a hS => ?_
  refine wpList_nil ?_
  refine hK44 _ _ ?_
  refine wp_block ?_
  obtain ⟨lb2, hl2, hF2⟩ := bind_some hF
  refine wp_loop_sh (fun s => S_impl_isVertex_l2 F p0_g_Size p1_vertices s) (fun s a w => Sl 22 [(2, (fdp b3 0)), (7, p1_verticesv), (8, (Value.int IntKind.i64 (p1_vertices.length : Int))), (9, (Value.int IntKind.i64 s))] a ∧ Mem Nob w0 w [(true, bx b3 27 [(Value.int IntKind.i64 p0_g_Size), p0_g_Rowsv]), (false, rd p0_g_Rowsv (List.map (Value.int IntKind.i64) p0_g_Rows)), (false, rd p1_verticesv (List.map (Value.int IntKind.i64) p1_vertices))]) hl2 ⟨(hS.sub (sub_cons rfl (sub_cons rfl (sub_cons rfl (sub_cons rfl sub_nil))))), (hM.pick [0, 1, 2] (by decide) rfl)⟩ ?_
  rintro K2 x45 a w res2 ⟨hS, hM⟩ hF hN2 hX2
  have hF : S_impl_isVertex_l2 F p0_g_Size p1_vertices x45 = some res2 := hF
  have hS : Sl 22 [(2, (fdp b3 0)), (7, p1_verticesv), (8, (Value.int IntKind.i64 (p1_vertices.length : Int))), (9, (Value.int IntKind.i64 x45))] a := hS
  have hM : Mem Nob w0 w [(true, bx b3 27 [(Value.int IntKind.i64 p0_g_Size), p0_g_Rowsv]), (false, rd p0_g_Rowsv (List.map (Value.int IntKind.i64) p0_g_Rows)), (false, rd p1_verticesv (List.map (Value.int IntKind.i64) p1_vertices))] := hM
  unfold S_impl_isVertex_l2 at hF
  refine wp_seq_k fun K63 hK63 => ?_
  refine wp_region_lit ?_
  refine st_val hS rfl rfl (by decide) (rv_lss (hS.ev rfl) (hS.ev rfl)) fun a hS => ?_
  refine wpList_nil ?_
  refine hK63 _ _ ?_
  refine wp_seq_k fun K64 hK64 => ?_
  rcases ite_some hF with ⟨hc, hF⟩ | ⟨hc, hF⟩
  · refine cond_t hS rfl hc ?_
    refine wp_skip ?_
    refine hK64 _ _ ?_
    refine wp_seq_k fun K65 hK65 => ?_
    refine wp_block ?_
    refine wp_seq_k fun K73 hK73 => ?_
    refine wp_region_lit ?_
    obtain ⟨x75, hx, hF⟩ := bind_some hF
    obtain ⟨hi0, hi1, hex75⟩ := idxL_some hx
    refine st_val hS rfl rfl (by decide) (rv_indexAddr Try.underlying22 ty_el_3 (hS.ev rfl) (hS.ev rfl) (hM.get 2 rfl) hi0 (map_len hi1)) fun a hS => ?_
    refine st_val hS rfl rfl (by decide) (rv_load_el (hS.ev rfl) ty_ag_3 (hM.get 2 rfl) (mget hex75)) fun a hS => ?_
    refine st_val hS rfl rfl (by decide) (rv_assign (hS.ev rfl)) fun a hS => ?_
    refine wpList_nil ?_
    refine hK73 _ _ ?_
    refine wp_seq_k fun K76 hK76 => ?_
    refine wp_region_lit ?_
    refine st_val hS rfl rfl (by decide) (rv_move (hS.ev rfl)) fun a hS => ?_
    refine st_val hS rfl rfl (by decide) (rv_fieldAddr ty_fd_27_0 (hS.ev rfl)) fun a hS => ?_
    refine st_val hS rfl rfl (by decide) (rv_load_bx (hS.ev rfl) ty_ag_3 (hM.get 0 rfl) rfl) fun a hS => ?_
    refine st_val hS rfl rfl (by decide) (rv_sub (hS.ev rfl) (hS.ev rfl)) fun a hS => ?_
    obtain ⟨r78, hr, hF⟩ := bind_some hF
    refine st_wp hS rfl (wp_call hS rfl rfl (by decide) fn_ok_90 rfl (c_impl_within F x75 0 (IntKind.i64.wrap (p0_g_Size - 1)) hr _) fun v w a hK hS => ?_)
    obtain ⟨rfl, hN⟩ := hK
    have hM := hM.fra hN.fr
    refine st_val hS rfl rfl (by decide) (rv_not (hS.ev rfl)) fun a hS => ?_
    refine wpList_nil ?_
    refine hK76 _ _ ?_
    rcases ite_some hF with ⟨hc, hF⟩ | ⟨hc, hF⟩
    · refine cond_t hS rfl hc ?_
      refine wp_seq_k fun K79 hK79 => ?_
      refine wp_region_lit ?_
      refine st_val hS rfl rfl (by decide) (rv_assign (hS.ev rfl)) fun a hS => ?_
      refine wpList_nil ?_
      refine hK79 _ _ ?_
      refine wp_ret ?_
      cases hF
      have e := hX2 _ rfl
      subst e
      have hF := hF2
      cases hF
      exact hQr _ _ (r_1 hS rfl rfl ⟨rfl, hM.pick [] (by decide) rfl⟩)
    · refine cond_f hS rfl hc ?_
      refine wp_skip ?_
      refine hK65 _ _ ?_
      refine wp_region_lit ?_
      refine st_val hS rfl rfl (by decide) (rv_add (hS.ev rfl) (hS.ev rfl)) fun a hS => ?_
      refine st_val hS rfl rfl (by decide) (rv_move (hS.ev rfl)) fun a hS => ?_
      refine wpList_nil ?_
      cases hF
      exact hN2 _ _ _ rfl ⟨(hS.sub (sub_cons rfl (sub_cons rfl (sub_cons rfl (sub_cons rfl sub_nil))))), (hM.pick [0, 1, 2] (by decide) rfl)⟩
  · refine cond_f hS rfl hc ?_
    refine wp_exit ?_
    cases hF
    exact hJ1 _ _ (hS.sub (sub_cons rfl sub_nil)) (hM.pick [0, 1] (by decide) rfl) (by have e := hX2 _ rfl; subst e; exact hF2)


theorem c_impl_BreadthOrder (F : Nat) (p0_g_Size : Int) (p0_g_Rows : List Int) (p1_start : Int) (p0_g_Rowsv : Value) {r : (List (Int)) × Bool} (hF : S_impl_BreadthOrder F p0_g_Size p0_g_Rows p1_start = some r) (w0 : World) (h0 : RdRow w0 p0_g_Rowsv (List.map (Value.int IntKind.i64) p0_g_Rows)) :
    Calls Try.prog 30 [(Value.agg #[(Value.int IntKind.i64 p0_g_Size), p0_g_Rowsv]), (Value.int IntKind.i64 p1_start)].toArray w0 (retPost fun v w' => ∃ v488, v = (Value.tuple #[v488, (Value.bool r.2)]) ∧ Mem Nob w0 w' [(true, ow 3 v488 (List.map (Value.int IntKind.i64) r.1))]) := by
  have hM : Mem Nob w0 w0 [(false, rd p0_g_Rowsv (List.map (Value.int IntKind.i64) p0_g_Rows))] := (Mem.rcons (Mem.nil w0) h0 (by simp))
  refine enter2 Try.func30 rfl rfl rfl fun Q a hQr hQn hQp hS => ?_
  have hS : Sl 47 [(0, (Value.agg #[(Value.int IntKind.i64 p0_g_Size), p0_g_Rowsv])), (1, (Value.int IntKind.i64 p1_start))] a := hS
  unfold S_impl_BreadthOrder at hF
  refine wp_seq_k fun K1 hK1 => ?_
  refine wp_region_lit ?_
  obtain ⟨b3, w, hr, hM⟩ := hM.boxE (ρ := a.eval) (dst := some 2) (ty := _) (pos := _) (af := _) (gd := _) (x := .tmp 0) (T := 27) [(Value.int IntKind.i64 p0_g_Size), p0_g_Rowsv] (hS.ev rfl) rfl
  refine st_val hS rfl rfl (by decide) hr fun a hS => ?_
  refine st_val hS rfl rfl (by decide) (rv_assign (hS.ev rfl)) fun a hS => ?_
  refine st_val hS rfl rfl (by decide) (rv_assign (hS.ev rfl)) fun a hS => ?_
  refine wpList_nil ?_
  refine hK1 _ _ ?_
  refine wp_seq_k fun K4 hK4 => ?_
  refine wp_seq_k fun K11 hK11 => ?_
  refine wp_region_lit ?_
  refine st_val hS rfl rfl (by decide) (rv_load_agg (hS.ev rfl) ty_ag_27 (hM.get 0 rfl) ty_sz_27) fun a hS => ?_
  refine st_val hS rfl rfl (by decide) (rv_move (hS.ev rfl)) fun a hS => ?_
  obtain ⟨v14, w, hr, hM⟩ := Mem.litE (f := (Value.int IntKind.i64)) (dst := some 12) (ty := _) (pos := _) (af := _) (gd := _) (ps := [(0, .tmp 11)]) ([p1_start] : List (Int)) i64_one hM hS Try.underlying22 ty_el_3 rfl rfl rfl rfl
  refine st_val hS rfl rfl (by decide) hr fun a hS => ?_
  obtain ⟨r15, hr, hF⟩ := bind_some hF
  refine st_wp hS rfl (wp_call hS rfl rfl (by decide) fn_ok_63 rfl (c_impl_isVertex F p0_g_Size p0_g_Rows ([p1_start] : List (Int)) p0_g_Rowsv v14 hr _ (hM.get 2 rfl) (rd_of_ow (hM.get 0 rfl))) fun v w a hK hS => ?_)
  obtain ⟨rfl, hN⟩ := hK
  have hM := hM.fra hN.fr
  refine st_val hS rfl rfl (by decide) (rv_not (hS.ev rfl)) fun a hS => ?_
  refine wpList_nil ?_
  refine hK11 _ _ ?_
  rcases ite_some hF with ⟨hc, hF⟩ | ⟨hc, hF⟩
  · refine cond_t hS rfl hc ?_
    refine wp_seq_k fun K16 hK16 => ?_
    refine wp_region_lit ?_
    refine st_val hS rfl rfl (by decide) (rv_assign (hS.ev rfl)) fun a hS => ?_
    refine st_val hS rfl rfl (by decide) (rv_assign (hS.ev rfl)) fun a hS => ?_
    refine wpList_nil ?_
    refine hK16 _ _ ?_
    refine wp_ret ?_
    cases hF
    have hM := hM.addNil 3
    exact hQr _ _ (r_2 hS rfl rfl rfl ⟨(Value.slice none 0 0), rfl, hM.pick [0] (by decide) rfl⟩)
  · refine cond_f hS rfl hc ?_
    refine wp_skip ?_
    refine hK4 _ _ ?_
    refine wp_seq_k fun K17 hK17 => ?_
    refine wp_region_lit ?_
    refine st_val hS rfl rfl (by decide) (rv_move (hS.ev rfl)) fun a hS => ?_
    obtain ⟨v19, w, hr, hM⟩ := Mem.litE (f := (Value.int IntKind.i64)) (dst := some 16) (ty := _) (pos := _) (af := _) (gd := _) (ps := [(0, .tmp 15)]) ([p1_start] : List (Int)) i64_one hM hS Try.underlying22 ty_el_3 rfl rfl rfl rfl
    refine st_val hS rfl rfl (by decide) hr fun a hS => ?_
    refine st_val hS rfl rfl (by decide) (rv_assign (hS.ev rfl)) fun a hS => ?_
    refine wpList_nil ?_
    refine hK17 _ _ ?_
    refine wp_seq_k fun K20 hK20 => ?_
    have hJ1 : ∀ (l254 : List Int) (v253 : Value) (a : Act) (w : World), Sl 47 [(6, v253)] a → Mem Nob w0 w [(true, ow 3 v253 (List.map (Value.int IntKind.i64) l254))] → S_impl_BreadthOrder_j1 F l254 = some r → K20 a w := by
      intro l254 v253 a w hS hM hF
      unfold S_impl_BreadthOrder_j1 at hF
      refine hK20 _ _ ?_
      refine wp_seq_k fun K255 hK255 => ?_
      refine wp_region_lit ?_
      refine st_val hS rfl rfl (by decide) (rv_move (hS.ev rfl)) fun a hS => ?_
      refine st_val hS rfl rfl (by decide) (rv_assign (hS.ev rfl)) fun a hS => ?_
      refine st_val hS rfl rfl (by decide) (rv_assign (hS.ev rfl)) fun a hS => ?_
      refine wpList_nil ?_
      refine hK255 _ _ ?_
      refine wp_ret ?_
      cases hF
      exact hQr _ _ (r_2 hS rfl rfl rfl ⟨v253, rfl, hM.pick [0] (by decide) rfl⟩)
    refine wp_seq_k fun K256 hK256 => ?_
    refine wp_region_lit ?_
    refine st_val hS rfl rfl (by decide) (rv_assign (hS.ev rfl)) fun a hS => ?_
    refine wpList_nil ?_
    refine hK256 _ _ ?_
    refine wp_block ?_
    obtain ⟨lb2, hl2, hF2⟩ := bind_some hF
    refine wp_loop_sh (fun s => S_impl_BreadthOrder_l2 F p0_g_Rows s.1 s.2) (fun s a w => ∃ (v257 : Value), Sl 47 [(2, (fdp b3 0)), (6, v257), (7, (Value.int IntKind.i64 s.2))] a ∧ Mem Nob w0 w [(true, bx b3 27 [(Value.int IntKind.i64 p0_g_Size), p0_g_Rowsv]), (false, rd p0_g_Rowsv (List.map (Value.int IntKind.i64) p0_g_Rows)), (true, ow 3 v257 (List.map (Value.int IntKind.i64) s.1))]) hl2 ⟨v19, (hS.sub (sub_cons rfl (sub_cons rfl (sub_cons rfl sub_nil)))), (hM.pick [2, 3, 0] (by decide) rfl)⟩ ?_
    rintro K2 ⟨l258, x259⟩ a w res2 ⟨v257, hS, hM⟩ hF hN2 hX2
    have hF : S_impl_BreadthOrder_l2 F p0_g_Rows l258 x259 = some res2 := hF
    have hS : Sl 47 [(2, (fdp b3 0)), (6, v257), (7, (Value.int IntKind.i64 x259))] a := hS
    have hM : Mem Nob w0 w [(true, bx b3 27 [(Value.int IntKind.i64 p0_g_Size), p0_g_Rowsv]), (false, rd p0_g_Rowsv (List.map (Value.int IntKind.i64) p0_g_Rows)), (true, ow 3 v257 (List.map (Value.int IntKind.i64) l258))] := hM
    unfold S_impl_BreadthOrder_l2 at hF
    refine wp_seq_k fun K374 hK374 => ?_
    refine wp_seq_k fun K376 hK376 => ?_
    refine wp_region_lit ?_
    refine st_val hS rfl rfl (by decide) (rv_move (hS.ev rfl)) fun a hS => ?_
    refine st_val hS rfl rfl (by decide) (rv_move (hS.ev rfl)) fun a hS => ?_
    refine st_val hS rfl rfl (by decide) (rv_len_rowM Try.underlying22 (hS.ev rfl) (rd_of_ow (hM.get 2 rfl))) fun a hS => ?_
    refine st_val hS rfl rfl (by decide) (rv_lss (hS.ev rfl) (hS.ev rfl)) fun a hS => ?_
    refine wpList_nil ?_
    refine hK376 _ _ ?_
    rcases ite_some hF with ⟨hc, hF⟩ | ⟨hc, hF⟩
    · refine cond_t hS rfl hc ?_
      refine wp_skip ?_
      refine hK374 _ _ ?_
      refine wp_seq_k fun K377 hK377 => ?_
      have hJ3 : ∀ (l433 : List Int) (v432 : Value) (a : Act) (w : World), Sl 47 [(2, (fdp b3 0)), (6, v432), (7, (Value.int IntKind.i64 x259))] a → Mem Nob w0 w [(true, bx b3 27 [(Value.int IntKind.i64 p0_g_Size), p0_g_Rowsv]), (false, rd p0_g_Rowsv (List.map (Value.int IntKind.i64) p0_g_Rows)), (true, ow 3 v432 (List.map (Value.int IntKind.i64) l433))] → S_impl_BreadthOrder_j3 F x259 l433 = some res2 → K377 a w := by
        intro l433 v432 a w hS hM hF
        unfold S_impl_BreadthOrder_j3 at hF
        refine hK377 _ _ ?_
        refine wp_region_lit ?_
        refine st_val hS rfl rfl (by decide) (rv_move (hS.ev rfl)) fun a hS => ?_
        refine st_val hS rfl rfl (by decide) (rv_add (hS.ev rfl) (hS.ev rfl)) fun a hS => ?_
        refine st_val hS rfl rfl (by decide) (rv_assign (hS.ev rfl)) fun a hS => ?_
        refine wpList_nil ?_
        cases hF
        exact hN2 _ _ _ rfl ⟨v432, (hS.sub (sub_cons rfl (sub_cons rfl (sub_cons rfl sub_nil)))), (hM.pick [0, 1, 2] (by decide) rfl)⟩
      refine wp_block ?_
      refine wp_seq_k fun K434 hK434 => ?_
      refine an_start Nob ty_mixed fun w hf => ?_
      have hM := hM.fra hf
      have hB := hM
      have hM := hB.reg0
      refine an_take hS (i := 0) rfl (by kernel_rfl) (by kernel_rfl) (by kernel_rfl) rfl (by decide) (fun c a a' w hd h => hQp c a a' w hd h) rfl (fun w' hC' => (rv_fieldAddr ty_fd_27_1 (hS.ev rfl))) hM.fr fun a hS => ?_
      refine an_take hS (i := 1) rfl (by kernel_rfl) (by kernel_rfl) (by kernel_rfl) rfl (by decide) (fun c a a' w hd h => hQp c a a' w hd h) rfl (fun w' hC' => (rv_load_bx (hS.ev rfl) ty_ag_22 ((hB.fra hC').get 0 rfl) rfl)) hM.fr fun a hS => ?_
      refine an_take hS (i := 2) rfl (by kernel_rfl) (by kernel_rfl) (by kernel_rfl) rfl (by decide) (fun c a a' w hd h => hQp c a a' w hd h) rfl (fun w' hC' => (rv_move (hS.ev rfl))) hM.fr fun a hS => ?_
      refine an_take hS (i := 3) rfl (by kernel_rfl) (by kernel_rfl) (by kernel_rfl) rfl (by decide) (fun c a a' w hd h => hQp c a a' w hd h) rfl (fun w' hC' => (rv_move (hS.ev rfl))) hM.fr fun a hS => ?_
      obtain ⟨x439, hx, hF⟩ := bind_some hF
      obtain ⟨hi0, hi1, hex439⟩ := idxL_some hx
      refine an_take hS (i := 4) rfl (by kernel_rfl) (by kernel_rfl) (by kernel_rfl) rfl (by decide) (fun c a a' w hd h => hQp c a a' w hd h) rfl (fun w' hC' => (rv_indexAddr Try.underlying22 ty_el_3 (hS.ev rfl) (hS.ev rfl) (rd_of_ow (hM.get 2 rfl)) hi0 (map_len hi1))) hM.fr fun a hS => ?_
      refine an_take hS (i := 5) rfl (by kernel_rfl) (by kernel_rfl) (by kernel_rfl) rfl (by decide) (fun c a a' w hd h => hQp c a a' w hd h) rfl (fun w' hC' => (rv_load_el (hS.ev rfl) ty_ag_3 (rd_of_ow ((hB.fra hC').get 2 rfl)) (mget hex439))) hM.fr fun a hS => ?_
      obtain ⟨x440, hx, hF⟩ := bind_some hF
      obtain ⟨hi0, hi1, hex440⟩ := idxL_some hx
      refine an_take hS (i := 6) rfl (by kernel_rfl) (by kernel_rfl) (by kernel_rfl) rfl (by decide) (fun c a a' w hd h => hQp c a a' w hd h) rfl (fun w' hC' => (rv_indexAddr Try.underlying22 ty_el_3 (hS.ev rfl) (hS.ev rfl) (hM.get 1 rfl) hi0 (map_len hi1))) hM.fr fun a hS => ?_
      refine an_take hS (i := 7) rfl (by kernel_rfl) (by kernel_rfl) (by kernel_rfl) rfl (by decide) (fun c a a' w hd h => hQp c a a' w hd h) rfl (fun w' hC' => (rv_load_el (hS.ev rfl) ty_ag_3 ((hB.fra hC').get 1 rfl) (mget hex440))) hM.fr fun a hS => ?_
      refine an_take hS (i := 10) rfl (by kernel_rfl) (by kernel_rfl) (by kernel_rfl) rfl (by decide) (fun c a a' w hd h => hQp c a a' w hd h) rfl (fun w' hC' => (rv_move (hS.ev rfl))) hM.fr fun a hS => ?_
      obtain ⟨r441, hr, hF⟩ := bind_some hF
      refine an_one hS (i := 8) rfl (by kernel_rfl) rfl ?_
      refine wp_call hS rfl rfl (by decide) fn_ok_64 rfl (c_impl_ListOf F x440 hr _) fun v442 w a hK hS => ?_
      have hN := hK
      have hM := hM.add hN rfl
      refine ⟨hM.fr, ?_⟩
      refine an_take hS (i := 9) rfl (by kernel_rfl) (by kernel_rfl) (by kernel_rfl) rfl (by decide) (fun c a a' w hd h => hQp c a a' w hd h) rfl (fun w' hC' => (rv_len_rowM Try.underlying22 (hS.ev rfl) (rd_of_ow (hM.get 0 rfl)))) hM.fr fun a hS => ?_
      refine an_done (by kernel_rfl) ?_
      have hN := hM.pick [0] (by decide) rfl
      have hM := Mem.callo (A := []) (B := [(true, bx b3 27 [(Value.int IntKind.i64 p0_g_Size), p0_g_Rowsv]), (false, rd p0_g_Rowsv (List.map (Value.int IntKind.i64) p0_g_Rows)), (true, ow 3 v257 (List.map (Value.int IntKind.i64) l258))]) hB rfl (hN.memS fun _ h => h.elim) rfl
      refine hK434 _ _ ?_
      refine wp_block ?_
      obtain ⟨lb4, hl4, hF4⟩ := bind_some hF
      refine wp_loop_sh (fun s => S_impl_BreadthOrder_l4 F r441 s.1 s.2) (fun s a w => ∃ (v443 : Value), Sl 47 [(2, (fdp b3 0)), (6, v443), (7, (Value.int IntKind.i64 x259)), (31, v442), (32, (Value.int IntKind.i64 (r441.length : Int))), (33, (Value.int IntKind.i64 s.2))] a ∧ Mem Nob w0 w [(true, bx b3 27 [(Value.int IntKind.i64 p0_g_Size), p0_g_Rowsv]), (false, rd p0_g_Rowsv (List.map (Value.int IntKind.i64) p0_g_Rows)), (true, ow 3 v443 (List.map (Value.int IntKind.i64) s.1)), (true, ow 3 v442 (List.map (Value.int IntKind.i64) r441))]) hl4 ⟨v257, (hS.sub (sub_cons rfl (sub_cons rfl (sub_cons rfl (sub_cons rfl (sub_cons rfl (sub_cons rfl sub_nil))))))), (hM.pick [1, 2, 3, 0] (by decide) rfl)⟩ ?_
      rintro K4 ⟨l444, x445⟩ a w res4 ⟨v443, hS, hM⟩ hF hN4 hX4
      have hF : S_impl_BreadthOrder_l4 F r441 l444 x445 = some res4 := hF
      have hS : Sl 47 [(2, (fdp b3 0)), (6, v443), (7, (Value.int IntKind.i64 x259)), (31, v442), (32, (Value.int IntKind.i64 (r441.length : Int))), (33, (Value.int IntKind.i64 x445))] a := hS
      have hM : Mem Nob w0 w [(true, bx b3 27 [(Value.int IntKind.i64 p0_g_Size), p0_g_Rowsv]), (false, rd p0_g_Rowsv (List.map (Value.int IntKind.i64) p0_g_Rows)), (true, ow 3 v443 (List.map (Value.int IntKind.i64) l444)), (true, ow 3 v442 (List.map (Value.int IntKind.i64) r441))] := hM
      unfold S_impl_BreadthOrder_l4 at hF
      refine wp_seq_k fun K467 hK467 => ?_
      refine wp_region_lit ?_
      refine st_val hS rfl rfl (by decide) (rv_lss (hS.ev rfl) (hS.ev rfl)) fun a hS => ?_
      refine wpList_nil ?_
      refine hK467 _ _ ?_
      refine wp_seq_k fun K468 hK468 => ?_
      rcases ite_some hF with ⟨hc, hF⟩ | ⟨hc, hF⟩
      · refine cond_t hS rfl hc ?_
        refine wp_skip ?_
        refine hK468 _ _ ?_
        refine wp_seq_k fun K469 hK469 => ?_
        have hJ5 : ∀ (l479 : List Int) (v478 : Value) (a : Act) (w : World), Sl 47 [(2, (fdp b3 0)), (6, v478), (7, (Value.int IntKind.i64 x259)), (31, v442), (32, (Value.int IntKind.i64 (r441.length : Int))), (33, (Value.int IntKind.i64 x445))] a → Mem Nob w0 w [(true, bx b3 27 [(Value.int IntKind.i64 p0_g_Size), p0_g_Rowsv]), (false, rd p0_g_Rowsv (List.map (Value.int IntKind.i64) p0_g_Rows)), (true, ow 3 v478 (List.map (Value.int IntKind.i64) l479)), (true, ow 3 v442 (List.map (Value.int IntKind.i64) r441))] → S_impl_BreadthOrder_j5 F x445 l479 = some res4 → K469 a w := by
          intro l479 v478 a w hS hM hF
          unfold S_impl_BreadthOrder_j5 at hF
          refine hK469 _ _ ?_
          refine wp_region_lit ?_
          refine st_val hS rfl rfl (by decide) (rv_add (hS.ev rfl) (hS.ev rfl)) fun a hS => ?_
          refine st_val hS rfl rfl (by decide) (rv_move (hS.ev rfl)) fun a hS => ?_
          refine wpList_nil ?_
          cases hF
          exact hN4 _ _ _ rfl ⟨v478, (hS.sub (sub_cons rfl (sub_cons rfl (sub_cons rfl (sub_cons rfl (sub_cons rfl (sub_cons rfl sub_nil))))))), (hM.pick [0, 1, 2, 3] (by decide) rfl)⟩
        refine wp_block ?_
        refine wp_seq_k fun K480 hK480 => ?_
        refine wp_region_lit ?_
        obtain ⟨x482, hx, hF⟩ := bind_some hF
        obtain ⟨hi0, hi1, hex482⟩ := idxL_some hx
        refine st_val hS rfl rfl (by decide) (rv_indexAddr Try.underlying22 ty_el_3 (hS.ev rfl) (hS.ev rfl) (rd_of_ow (hM.get 3 rfl)) hi0 (map_len hi1)) fun a hS => ?_
        refine st_val hS rfl rfl (by decide) (rv_load_el (hS.ev rfl) ty_ag_3 (rd_of_ow (hM.get 3 rfl)) (mget hex482)) fun a hS => ?_
        refine st_val hS rfl rfl (by decide) (rv_assign (hS.ev rfl)) fun a hS => ?_
        refine wpList_nil ?_
        refine hK480 _ _ ?_
        refine wp_seq_k fun K483 hK483 => ?_
        refine wp_region_lit ?_
        refine st_val hS rfl rfl (by decide) (rv_move (hS.ev rfl)) fun a hS => ?_
        refine st_val hS rfl rfl (by decide) (rv_move (hS.ev rfl)) fun a hS => ?_
        obtain ⟨r485, hr, hF⟩ := bind_some hF
        refine st_wp hS rfl (wp_call hS rfl rfl (by decide) fn_ok_65 rfl (c_slices_Contains_int F l444 x482 v443 hr _ (rd_of_ow (hM.get 2 rfl))) fun v w a hK hS => ?_)
        obtain ⟨rfl, hN⟩ := hK
        have hM := hM.fra hN.fr
        refine st_val hS rfl rfl (by decide) (rv_not (hS.ev rfl)) fun a hS => ?_
        refine wpList_nil ?_
        refine hK483 _ _ ?_
        rcases ite_some hF with ⟨hc, hF⟩ | ⟨hc, hF⟩
        · refine cond_t hS rfl hc ?_
          refine wp_region_lit ?_
          refine st_val hS rfl rfl (by decide) (rv_move (hS.ev rfl)) fun a hS => ?_
          refine st_val hS rfl rfl (by decide) (rv_move (hS.ev rfl)) fun a hS => ?_
          obtain ⟨v486, w, hr, hM⟩ := Mem.litE (f := (Value.int IntKind.i64)) (dst := some 43) (ty := _) (pos := _) (af := _) (gd := _) (ps := [(0, .tmp 42)]) ([x482] : List (Int)) i64_one hM hS Try.underlying22 ty_el_3 rfl rfl rfl rfl
          refine st_val hS rfl rfl (by decide) hr fun a hS => ?_
          obtain ⟨_, hx, hF⟩ := bind_some hF
          have hM := hM.pick [3, 0, 1, 2, 4] (by decide) rfl
          obtain ⟨v487, w, hr, hM⟩ := Mem.appE (f := (Value.int IntKind.i64)) (S := _) (R := [(true, ow 3 v486 (List.map (Value.int IntKind.i64) ([x482] : List (Int)))), (true, bx b3 27 [(Value.int IntKind.i64 p0_g_Size), p0_g_Rowsv]), (false, rd p0_g_Rowsv (List.map (Value.int IntKind.i64) p0_g_Rows)), (true, ow 3 v442 (List.map (Value.int IntKind.i64) r441))]) (ρ := a.eval) (dst := some 44) (ty := _) (pos := _) (af := _) (gd := _) (x := .tmp 41) (y := .tmp 43) i64_one hM Try.underlying22 ty_el_3 rfl (by decide) (hS.ev rfl) (hS.ev rfl) (rd_of_ow (hM.get 1 rfl)) (catO_some hx)
          refine st_val hS rfl rfl (by decide) hr fun a hS => ?_
          refine st_val hS rfl rfl (by decide) (rv_assign (hS.ev rfl)) fun a hS => ?_
          refine wpList_nil ?_
          exact hJ5 (l444 ++ ([x482] : List (Int))) v487 _ _ (hS.sub (sub_cons rfl (sub_cons rfl (sub_cons rfl (sub_cons rfl (sub_cons rfl (sub_cons rfl sub_nil))))))) (hM.pick [2, 3, 0, 4] (by decide) rfl) hF
        · refine cond_f hS rfl hc ?_
          refine wp_skip ?_
          exact hJ5 l444 v443 _ _ (hS.sub (sub_cons rfl (sub_cons rfl (sub_cons rfl (sub_cons rfl (sub_cons rfl (sub_cons rfl sub_nil))))))) (hM.pick [0, 1, 2, 3] (by decide) rfl) hF
      · refine cond_f hS rfl hc ?_
        refine wp_exit ?_
        cases hF
        exact hJ3 l444 v443 _ _ (hS.sub (sub_cons rfl (sub_cons rfl (sub_cons rfl sub_nil)))) (hM.pick [0, 1, 2] (by decide) rfl) (by have e := hX4 _ rfl; subst e; exact hF4)
    · refine cond_f hS rfl hc ?_
      refine wp_exit ?_
      cases hF
      exact hJ1 l258 v257 _ _ (hS.sub (sub_cons rfl sub_nil)) (hM.pick [2] (by decide) rfl) (by have e := hX2 _ rfl; subst e; exact hF2)


theorem c_laws_FnExactBreadthOrder (F : Nat) (p0_aG_Size : Int) (p0_aG_Rows : List Int) (p1_aStart : Int) (p0_aG_Rowsv : Value) {r : Bool} (hF : S_laws_FnExactBreadthOrder F p0_aG_Size p0_aG_Rows p1_aStart = some r) (w0 : World) (h0 : RdRow w0 p0_aG_Rowsv (List.map (Value.int IntKind.i64) p0_aG_Rows)) :
    Calls Try.prog 6 [(Value.agg #[(Value.int IntKind.i64 p0_aG_Size), p0_aG_Rowsv]), (Value.int IntKind.i64 p1_aStart)].toArray w0 (retPost fun v w' => v = (Value.bool r) ∧ Mem Nob w0 w' []) := by
  have hM : Mem Nob w0 w0 [(false, rd p0_aG_Rowsv (List.map (Value.int IntKind.i64) p0_aG_Rows))] := (Mem.rcons (Mem.nil w0) h0 (by simp))
  refine enter2 Try.func6 rfl rfl rfl fun Q a hQr hQn hQp hS => ?_
  have hS : Sl 101 [(0, (Value.agg #[(Value.int IntKind.i64 p0_aG_Size), p0_aG_Rowsv])), (1, (Value.int IntKind.i64 p1_aStart))] a := hS
  unfold S_laws_FnExactBreadthOrder at hF
  refine wp_seq_k fun K1 hK1 => ?_
  refine wp_region_lit ?_
  obtain ⟨b3, w, hr, hM⟩ := hM.boxE (ρ := a.eval) (dst := some 2) (ty := _) (pos := _) (af := _) (gd := _) (x := .tmp 0) (T := 24) [(Value.int IntKind.i64 p0_aG_Size), p0_aG_Rowsv] (hS.ev rfl) rfl
  refine st_val hS rfl rfl (by decide) hr fun a hS => ?_
  refine st_val hS rfl rfl (by decide) (rv_assign (hS.ev rfl)) fun a hS => ?_
  refine wpList_nil ?_
  refine hK1 _ _ ?_
  refine wp_seq_k fun K4 hK4 => ?_
  refine wp_region_lit ?_
  refine st_val hS rfl rfl (by decide) (rv_assign (hS.ev rfl)) fun a hS => ?_
  refine wpList_nil ?_
  refine hK4 _ _ ?_
  refine wp_seq_k fun K5 hK5 => ?_
  refine wp_region_lit ?_
  refine st_val hS rfl rfl (by decide) (rv_load_agg (hS.ev rfl) ty_ag_24 (hM.get 0 rfl) ty_sz_24) fun a hS => ?_
  refine st_val hS rfl rfl (by decide) (rv_move (hS.ev rfl)) fun a hS => ?_
  obtain ⟨r7, hr, hF⟩ := bind_some hF
  refine st_wp hS rfl (wp_call hS rfl rfl (by decide) fn_ok_15 rfl (c_laws_szGraph F p0_aG_Size p0_aG_Rows 1048576 p0_aG_Rowsv hr _ (hM.get 1 rfl)) fun v w a hK hS => ?_)
  obtain ⟨rfl, hN⟩ := hK
  have hM := hM.fra hN.fr
  refine st_val hS rfl rfl (by decide) (rv_assign (hS.ev rfl)) fun a hS => ?_
  refine wpList_nil ?_
  refine hK5 _ _ ?_
  refine wp_seq_k fun K8 hK8 => ?_
  refine wp_seq_k fun K11 hK11 => ?_
  refine wp_region_lit ?_
  refine st_val hS rfl rfl (by decide) (rv_move (hS.ev rfl)) fun a hS => ?_
  refine st_val hS rfl rfl (by decide) (rv_lss (hS.ev rfl) (hS.ev rfl)) fun a hS => ?_
  refine wpList_nil ?_
  refine hK11 _ _ ?_
  rcases ite_some hF with ⟨hc, hF⟩ | ⟨hc, hF⟩
  · refine cond_t hS rfl hc ?_
    refine wp_seq_k fun K12 hK12 => ?_
    refine wp_region_lit ?_
    refine st_val hS rfl rfl (by decide) (rv_assign (hS.ev rfl)) fun a hS => ?_
    refine wpList_nil ?_
    refine hK12 _ _ ?_
    refine wp_ret ?_
    cases hF
    exact hQr _ _ (r_1 hS rfl rfl ⟨rfl, hM.pick [] (by decide) rfl⟩)
  · refine cond_f hS rfl hc ?_
    refine wp_skip ?_
    refine hK8 _ _ ?_
    refine wp_seq_k fun K13 hK13 => ?_
    refine wp_region_lit ?_
    refine st_val hS rfl rfl (by decide) (rv_load_agg (hS.ev rfl) ty_ag_24 (hM.get 0 rfl) ty_sz_24) fun a hS => ?_
    obtain ⟨r18, hr, hF⟩ := bind_some hF
    refine st_wp hS rfl (wp_call hS rfl rfl (by decide) fn_ok_17 rfl (c_laws_toGraph F p0_aG_Size p0_aG_Rows p0_aG_Rowsv hr _ (hM.get 1 rfl)) fun v w a hK hS => ?_)
    obtain ⟨v19, rfl, hN⟩ := hK
    have hM := hM.add hN rfl
    refine st_val hS rfl rfl (by decide) (rv_move (hS.ev rfl)) fun a hS => ?_
    obtain ⟨r20, hr, hF⟩ := bind_some hF
    refine st_wp hS rfl (wp_call hS rfl rfl (by decide) fn_ok_29 rfl (c_spec_BreadthOrder F r18.1 r18.2 p1_aStart v19 hr _ (rd_of_ow (hM.get 0 rfl))) fun v w a hK hS => ?_)
    obtain ⟨v21, rfl, hN⟩ := hK
    have hM := hM.add hN rfl
    refine st_val hS rfl rfl (by decide) (rv_move (hS.ev rfl)) fun a hS => ?_
    refine st_val hS rfl rfl (by decide) (rv_extract (hS.ev rfl) rfl) fun a hS => ?_
    refine st_val hS rfl rfl (by decide) (rv_extract (hS.ev rfl) rfl) fun a hS => ?_
    refine st_val hS rfl rfl (by decide) (rv_assign (hS.ev rfl)) fun a hS => ?_
    refine st_val hS rfl rfl (by decide) (rv_assign (hS.ev rfl)) fun a hS => ?_
    refine wpList_nil ?_
    refine hK13 _ _ ?_
    refine wp_seq_k fun K22 hK22 => ?_
    refine wp_region_lit ?_
    refine st_val hS rfl rfl (by decide) (rv_load_agg (hS.ev rfl) ty_ag_24 (hM.get 2 rfl) ty_sz_24) fun a hS => ?_
    obtain ⟨r26, hr, hF⟩ := bind_some hF
    refine st_wp hS rfl (wp_call hS rfl rfl (by decide) fn_ok_17 rfl (c_laws_toGraph F p0_aG_Size p0_aG_Rows p0_aG_Rowsv hr _ (hM.get 3 rfl)) fun v w a hK hS => ?_)
    obtain ⟨v27, rfl, hN⟩ := hK
    have hM := hM.add hN rfl
    obtain ⟨b28, w, hr, hM⟩ := hM.allocE (ρ := a.eval) (dst := some 8) (ty := _) (pos := _) (af := _) (gd := _) (T := 27) (P := Try.prog) [(Value.int IntKind.i64 0), (Value.slice none 0 0)] ty_zr_27 rfl
    refine st_val hS rfl rfl (by decide) hr fun a hS => ?_
    have hM := hM.addNil 3
    have hM := hM.pick [1, 0, 2, 3, 4, 5, 6] (by decide) rfl
    obtain ⟨w, hr, hM⟩ := hM.st_agg (us := [(Value.int IntKind.i64 r26.1), v27]) (ρ := a.eval) (dst := none) (ty := _) (pos := _) (af := _) (gd := _) (x := .tmp 8) (y := .tmp 29) (hS.ev rfl) (hS.ev rfl) ty_sz_27 (all1_cons rfl (all1_cons (rd_one (rd_of_ow (hM.get 2 rfl))) all1_nil)) rfl
    refine st_unit hS rfl rfl hr ?_
    refine wpList_nil ?_
    refine hK22 _ _ ?_
    refine wp_seq_k fun K29 hK29 => ?_
    refine wp_region_lit ?_
    refine st_val hS rfl rfl (by decide) (rv_load_agg (hS.ev rfl) ty_ag_27 (hM.get 0 rfl) ty_sz_27) fun a hS => ?_
    refine st_val hS rfl rfl (by decide) (rv_move (hS.ev rfl)) fun a hS => ?_
    obtain ⟨r32, hr, hF⟩ := bind_some hF
    refine st_wp hS rfl (wp_call hS rfl rfl (by decide) fn_ok_30 rfl (c_impl_BreadthOrder F r26.1 r26.2 p1_aStart v27 hr _ (rd_of_ow (hM.get 2 rfl))) fun v w a hK hS => ?_)
    obtain ⟨v33, rfl, hN⟩ := hK
    have hM := hM.add hN rfl
    refine st_val hS rfl rfl (by decide) (rv_move (hS.ev rfl)) fun a hS => ?_
    refine st_val hS rfl rfl (by decide) (rv_extract (hS.ev rfl) rfl) fun a hS => ?_
    refine st_val hS rfl rfl (by decide) (rv_extract (hS.ev rfl) rfl) fun a hS => ?_
    refine st_val hS rfl rfl (by decide) (rv_assign (hS.ev rfl)) fun a hS => ?_
    refine st_val hS rfl rfl (by decide) (rv_assign (hS.ev rfl)) fun a hS => ?_
    refine wpList_nil ?_
    refine hK29 _ _ ?_
    refine wp_seq_k fun K34 hK34 => ?_
    refine wp_seq_k fun K40 hK40 => ?_
    have hJ1 : ∀ (p42 : Bool) (a : Act) (w : World), Sl 101 [(1, (Value.int IntKind.i64 p1_aStart)), (2, (fdp b3 0)), (6, v21), (7, (Value.bool r20.2)), (8, (fdp b28 0)), (9, v33), (10, (Value.bool r32.2)), (44, (Value.bool p42))] a → Mem Nob w0 w [(true, bx b3 24 [(Value.int IntKind.i64 p0_aG_Size), p0_aG_Rowsv]), (false, rd p0_aG_Rowsv (List.map (Value.int IntKind.i64) p0_aG_Rows)), (true, ow 3 v21 (List.map (Value.int IntKind.i64) r20.1)), (true, bx b28 27 [(Value.int IntKind.i64 r26.1), v27]), (true, ow 3 v27 (List.map (Value.int IntKind.i64) r26.2)), (true, ow 3 v33 (List.map (Value.int IntKind.i64) r32.1))] → S_laws_FnExactBreadthOrder_j1 F p0_aG_Size p0_aG_Rows p1_aStart r20 r26 r32 p42 = some r → K40 a w := by
      intro p42 a w hS hM hF
      unfold S_laws_FnExactBreadthOrder_j1 at hF
      refine hK40 _ _ ?_
      rcases ite_some hF with ⟨hc, hF⟩ | ⟨hc, hF⟩
      · refine cond_t hS rfl hc ?_
        refine wp_seq_k fun K43 hK43 => ?_
        refine wp_region_lit ?_
        refine st_val hS rfl rfl (by decide) (rv_assign (hS.ev rfl)) fun a hS => ?_
        refine wpList_nil ?_
        refine hK43 _ _ ?_
        refine wp_ret ?_
        cases hF
        exact hQr _ _ (r_1 hS rfl rfl ⟨rfl, hM.pick [] (by decide) rfl⟩)
      · refine cond_f hS rfl hc ?_
        refine wp_skip ?_
        refine hK34 _ _ ?_
        refine wp_seq_k fun K44 hK44 => ?_
        refine wp_seq_k fun K53 hK53 => ?_
        refine an_start Nob ty_mixed fun w hf => ?_
        have hM := hM.fra hf
        have hB := hM
        have hM := hB.reg0
        refine an_take hS (i := 0) rfl (by kernel_rfl) (by kernel_rfl) (by kernel_rfl) rfl (by decide) (fun c a a' w hd h => hQp c a a' w hd h) rfl (fun w' hC' => (rv_load_agg (hS.ev rfl) ty_ag_27 ((hB.fra hC').get 3 rfl) ty_sz_27)) hM.fr fun a hS => ?_
        refine an_take hS (i := 1) rfl (by kernel_rfl) (by kernel_rfl) (by kernel_rfl) rfl (by decide) (fun c a a' w hd h => hQp c a a' w hd h) rfl (fun w' hC' => (rv_load_agg (hS.ev rfl) ty_ag_24 ((hB.fra hC').get 0 rfl) ty_sz_24)) hM.fr fun a hS => ?_
        obtain ⟨r57, hr, hF⟩ := bind_some hF
        refine an_one hS (i := 2) rfl (by kernel_rfl) rfl ?_
        refine wp_call hS rfl rfl (by decide) fn_ok_17 rfl (c_laws_toGraph F p0_aG_Size p0_aG_Rows p0_aG_Rowsv hr _ (hM.get 1 rfl)) fun v w a hK hS => ?_
        obtain ⟨v58, rfl, hN⟩ := hK
        have hM := hM.add hN rfl
        refine ⟨hM.fr, ?_⟩
        obtain ⟨r59, hr, hF⟩ := bind_some hF
        refine an_one hS (i := 3) rfl (by kernel_rfl) rfl ?_
        refine wp_call hS rfl rfl (by decide) fn_ok_20 rfl (c_laws_eqGraph F r26.1 r26.2 r57.1 r57.2 v27 v58 hr _ (rd_of_ow (hM.get 5 rfl)) (rd_of_ow (hM.get 0 rfl))) fun v w a hK hS => ?_
        obtain ⟨rfl, hN⟩ := hK
        have hM := hM.fra hN.fr
        refine ⟨hM.fr, ?_⟩
        refine an_take hS (i := 4) rfl (by kernel_rfl) (by kernel_rfl) (by kernel_rfl) rfl (by decide) (fun c a a' w hd h => hQp c a a' w hd h) rfl (fun w' hC' => (rv_not (hS.ev rfl))) hM.fr fun a hS => ?_
        refine an_done (by kernel_rfl) ?_
        have hN := hM.pick [0] (by decide) rfl
        have hM := Mem.callo (A := []) (B := [(true, bx b3 24 [(Value.int IntKind.i64 p0_aG_Size), p0_aG_Rowsv]), (false, rd p0_aG_Rowsv (List.map (Value.int IntKind.i64) p0_aG_Rows)), (true, ow 3 v21 (List.map (Value.int IntKind.i64) r20.1)), (true, bx b28 27 [(Value.int IntKind.i64 r26.1), v27]), (true, ow 3 v27 (List.map (Value.int IntKind.i64) r26.2)), (true, ow 3 v33 (List.map (Value.int IntKind.i64) r32.1))]) hB rfl (hN.memS fun _ h => h.elim) rfl
        refine hK53 _ _ ?_
        rcases ite_some hF with ⟨hc, hF⟩ | ⟨hc, hF⟩
        · refine cond_t hS rfl hc ?_
          refine wp_seq_k fun K60 hK60 => ?_
          refine wp_region_lit ?_
          refine st_val hS rfl rfl (by decide) (rv_assign (hS.ev rfl)) fun a hS => ?_
          refine wpList_nil ?_
          refine hK60 _ _ ?_
          refine wp_ret ?_
          cases hF
          exact hQr _ _ (r_1 hS rfl rfl ⟨rfl, hM.pick [] (by decide) rfl⟩)
        · refine cond_f hS rfl hc ?_
          refine wp_skip ?_
          refine hK44 _ _ ?_
          refine wp_seq_k fun K61 hK61 => ?_
          refine wp_region_lit ?_
          refine st_val hS rfl rfl (by decide) (rv_assign (hS.ev rfl)) fun a hS => ?_
          refine wpList_nil ?_
          refine hK61 _ _ ?_
          refine wp_seq_k fun K62 hK62 => ?_
          refine wp_region_lit ?_
          refine st_val hS rfl rfl (by decide) (rv_load_agg (hS.ev rfl) ty_ag_27 (hM.get 4 rfl) ty_sz_27) fun a hS => ?_
          refine st_val hS rfl rfl (by decide) (rv_move (hS.ev rfl)) fun a hS => ?_
          obtain ⟨r64, hr, hF⟩ := bind_some hF
          have hM := hM.pick [5, 0, 1, 2, 3, 4, 6] (by decide) rfl
          have hP := Mem.pre (A := [(true, ow 3 v27 (List.map (Value.int IntKind.i64) r26.2))]) (C := []) (B := [(true, ow 3 v58 (List.map (Value.int IntKind.i64) r57.2)), (true, bx b3 24 [(Value.int IntKind.i64 p0_aG_Size), p0_aG_Rowsv]), (false, rd p0_aG_Rowsv (List.map (Value.int IntKind.i64) p0_aG_Rows)), (true, ow 3 v21 (List.map (Value.int IntKind.i64) r20.1)), (true, bx b28 27 [(Value.int IntKind.i64 r26.1), v27]), (true, ow 3 v33 (List.map (Value.int IntKind.i64) r32.1))]) hM rfl weaks_nil
          refine st_wp hS rfl (wp_call hS rfl rfl (by decide) fn_ok_21 rfl (c_laws_markGraph F r26.1 r26.2 1 v27 hr _ hP) fun v w a hK hS => ?_)
          obtain ⟨rfl, hN⟩ := hK
          have hM := Mem.callo (A := [(true, ow 3 v27 (List.map (Value.int IntKind.i64) r26.2))]) (B := [(true, ow 3 v58 (List.map (Value.int IntKind.i64) r57.2)), (true, bx b3 24 [(Value.int IntKind.i64 p0_aG_Size), p0_aG_Rowsv]), (false, rd p0_aG_Rowsv (List.map (Value.int IntKind.i64) p0_aG_Rows)), (true, ow 3 v21 (List.map (Value.int IntKind.i64) r20.1)), (true, bx b28 27 [(Value.int IntKind.i64 r26.1), v27]), (true, ow 3 v33 (List.map (Value.int IntKind.i64) r32.1))]) hM rfl hN rfl
          refine st_val hS rfl rfl (by decide) (rv_assign (hS.ev rfl)) fun a hS => ?_
          refine wpList_nil ?_
          refine hK62 _ _ ?_
          refine wp_seq_k fun K65 hK65 => ?_
          refine wp_seq_k fun K71 hK71 => ?_
          have hJ2 : ∀ (p73 : Bool) (a : Act) (w : World), Sl 101 [(1, (Value.int IntKind.i64 p1_aStart)), (2, (fdp b3 0)), (6, v21), (7, (Value.bool r20.2)), (9, v33), (65, (Value.bool p73))] a → Mem Nob w0 w [(true, bx b3 24 [(Value.int IntKind.i64 p0_aG_Size), p0_aG_Rowsv]), (false, rd p0_aG_Rowsv (List.map (Value.int IntKind.i64) p0_aG_Rows)), (true, ow 3 v21 (List.map (Value.int IntKind.i64) r20.1)), (true, ow 3 v33 (List.map (Value.int IntKind.i64) r32.1))] → S_laws_FnExactBreadthOrder_j2 F p0_aG_Size p0_aG_Rows p1_aStart r20 r32 p73 = some r → K71 a w := by
            intro p73 a w hS hM hF
            unfold S_laws_FnExactBreadthOrder_j2 at hF
            refine hK71 _ _ ?_
            rcases ite_some hF with ⟨hc, hF⟩ | ⟨hc, hF⟩
            · refine cond_t hS rfl hc ?_
              refine wp_seq_k fun K74 hK74 => ?_
              refine wp_region_lit ?_
              refine st_val hS rfl rfl (by decide) (rv_assign (hS.ev rfl)) fun a hS => ?_
              refine wpList_nil ?_
              refine hK74 _ _ ?_
              refine wp_ret ?_
              cases hF
              exact hQr _ _ (r_1 hS rfl rfl ⟨rfl, hM.pick [] (by decide) rfl⟩)
            · refine cond_f hS rfl hc ?_
              refine wp_skip ?_
              refine hK65 _ _ ?_
              refine wp_seq_k fun K75 hK75 => ?_
              refine wp_region_lit ?_
              refine st_val hS rfl rfl (by decide) (rv_assign (hS.ev rfl)) fun a hS => ?_
              refine wpList_nil ?_
              refine hK75 _ _ ?_
              refine wp_seq_k fun K76 hK76 => ?_
              refine wp_region_lit ?_
              refine st_val hS rfl rfl (by decide) (rv_move (hS.ev rfl)) fun a hS => ?_
              refine st_val hS rfl rfl (by decide) (rv_move (hS.ev rfl)) fun a hS => ?_
              obtain ⟨r78, hr, hF⟩ := bind_some hF
              have hM := hM.pick [3, 0, 1, 2] (by decide) rfl
              have hP := Mem.pre (A := [(true, ow 3 v33 (List.map (Value.int IntKind.i64) r32.1))]) (C := []) (B := [(true, bx b3 24 [(Value.int IntKind.i64 p0_aG_Size), p0_aG_Rowsv]), (false, rd p0_aG_Rowsv (List.map (Value.int IntKind.i64) p0_aG_Rows)), (true, ow 3 v21 (List.map (Value.int IntKind.i64) r20.1))]) hM rfl weaks_nil
              refine st_wp hS rfl (wp_call hS rfl rfl (by decide) fn_ok_22 rfl (c_laws_markIntS F r32.1 1 v33 hr _ hP) fun v w a hK hS => ?_)
              obtain ⟨rfl, hN⟩ := hK
              have hM := Mem.callo (A := [(true, ow 3 v33 (List.map (Value.int IntKind.i64) r32.1))]) (B := [(true, bx b3 24 [(Value.int IntKind.i64 p0_aG_Size), p0_aG_Rowsv]), (false, rd p0_aG_Rowsv (List.map (Value.int IntKind.i64) p0_aG_Rows)), (true, ow 3 v21 (List.map (Value.int IntKind.i64) r20.1))]) hM rfl hN rfl
              refine st_val hS rfl rfl (by decide) (rv_assign (hS.ev rfl)) fun a hS => ?_
              refine wpList_nil ?_
              refine hK76 _ _ ?_
              refine wp_seq_k fun K79 hK79 => ?_
              refine wp_region_lit ?_
              refine st_val hS rfl rfl (by decide) (rv_assign (hS.ev rfl)) fun a hS => ?_
              refine wpList_nil ?_
              refine hK79 _ _ ?_
              refine wp_seq_k fun K80 hK80 => ?_
              refine wp_region_lit ?_
              refine st_val hS rfl rfl (by decide) (rv_move (hS.ev rfl)) fun a hS => ?_
              refine st_val hS rfl rfl (by decide) (rv_move (hS.ev rfl)) fun a hS => ?_
              obtain ⟨r82, hr, hF⟩ := bind_some hF
              refine st_wp hS rfl (wp_call hS rfl rfl (by decide) fn_ok_23 rfl (c_laws_heldIntS F r78.2 1 v33 hr _ (rd_of_ow (hM.get 0 rfl))) fun v w a hK hS => ?_)
              obtain ⟨rfl, hN⟩ := hK
              have hM := hM.fra hN.fr
              refine st_val hS rfl rfl (by decide) (rv_assign (hS.ev rfl)) fun a hS => ?_
              refine wpList_nil ?_
              refine hK80 _ _ ?_
              refine wp_seq_k fun K83 hK83 => ?_
              refine wp_seq_k fun K86 hK86 => ?_
              refine wp_region_lit ?_
              refine st_val hS rfl rfl (by decide) (rv_move (hS.ev rfl)) fun a hS => ?_
              refine st_val hS rfl rfl (by decide) (rv_lss (hS.ev rfl) (hS.ev rfl)) fun a hS => ?_
              refine wpList_nil ?_
              refine hK86 _ _ ?_
              rcases ite_some hF with ⟨hc, hF⟩ | ⟨hc, hF⟩
              · refine cond_t hS rfl hc ?_
                refine wp_seq_k fun K87 hK87 => ?_
                refine wp_region_lit ?_
                refine st_val hS rfl rfl (by decide) (rv_assign (hS.ev rfl)) fun a hS => ?_
                refine wpList_nil ?_
                refine hK87 _ _ ?_
                refine wp_ret ?_
                cases hF
                exact hQr _ _ (r_1 hS rfl rfl ⟨rfl, hM.pick [] (by decide) rfl⟩)
              · refine cond_f hS rfl hc ?_
                refine wp_skip ?_
                refine hK83 _ _ ?_
                refine wp_seq_k fun K88 hK88 => ?_
                refine wp_seq_k fun K91 hK91 => ?_
                refine wp_region_lit ?_
                refine st_val hS rfl rfl (by decide) (rv_move (hS.ev rfl)) fun a hS => ?_
                refine st_val hS rfl rfl (by decide) (rv_move (hS.ev rfl)) fun a hS => ?_
                refine st_val hS rfl rfl (by decide) (rv_neq (hS.ev rfl) (hS.ev rfl)) fun a hS => ?_
                refine wpList_nil ?_
                refine hK91 _ _ ?_
                rcases ite_some hF with ⟨hc, hF⟩ | ⟨hc, hF⟩
                · refine cond_t hS rfl hc ?_
                  refine wp_seq_k fun K92 hK92 => ?_
                  refine wp_region_lit ?_
                  refine st_val hS rfl rfl (by decide) (rv_assign (hS.ev rfl)) fun a hS => ?_
                  refine wpList_nil ?_
                  refine hK92 _ _ ?_
                  refine wp_ret ?_
                  cases hF
                  exact hQr _ _ (r_1 hS rfl rfl ⟨rfl, hM.pick [] (by decide) rfl⟩)
                · refine cond_f hS rfl hc ?_
                  refine wp_skip ?_
                  refine hK88 _ _ ?_
                  refine wp_seq_k fun K93 hK93 => ?_
                  refine wp_region_lit ?_
                  refine st_val hS rfl rfl (by decide) (rv_load_agg (hS.ev rfl) ty_ag_24 (hM.get 1 rfl) ty_sz_24) fun a hS => ?_
                  obtain ⟨r98, hr, hF⟩ := bind_some hF
                  refine st_wp hS rfl (wp_call hS rfl rfl (by decide) fn_ok_17 rfl (c_laws_toGraph F p0_aG_Size p0_aG_Rows p0_aG_Rowsv hr _ (hM.get 2 rfl)) fun v w a hK hS => ?_)
                  obtain ⟨v99, rfl, hN⟩ := hK
                  have hM := hM.add hN rfl
                  refine st_val hS rfl rfl (by decide) (rv_move (hS.ev rfl)) fun a hS => ?_
                  obtain ⟨r100, hr, hF⟩ := bind_some hF
                  refine st_wp hS rfl (wp_call hS rfl rfl (by decide) fn_ok_30 rfl (c_impl_BreadthOrder F r98.1 r98.2 p1_aStart v99 hr _ (rd_of_ow (hM.get 0 rfl))) fun v w a hK hS => ?_)
                  obtain ⟨v101, rfl, hN⟩ := hK
                  have hM := hM.add hN rfl
                  refine st_val hS rfl rfl (by decide) (rv_move (hS.ev rfl)) fun a hS => ?_
                  refine st_val hS rfl rfl (by decide) (rv_extract (hS.ev rfl) rfl) fun a hS => ?_
                  refine st_val hS rfl rfl (by decide) (rv_extract (hS.ev rfl) rfl) fun a hS => ?_
                  refine st_val hS rfl rfl (by decide) (rv_assign (hS.ev rfl)) fun a hS => ?_
                  refine st_val hS rfl rfl (by decide) (rv_assign (hS.ev rfl)) fun a hS => ?_
                  refine wpList_nil ?_
                  refine hK93 _ _ ?_
                  refine wp_seq_k fun K102 hK102 => ?_
                  refine wp_seq_k fun K108 hK108 => ?_
                  have hJ3 : ∀ (p110 : Bool) (a : Act) (w : World), Sl 101 [(9, v33), (12, (Value.int IntKind.i64 r78.1)), (92, (Value.bool p110))] a → Mem Nob w0 w [(true, ow 3 v33 (List.map (Value.int IntKind.i64) r78.2))] → S_laws_FnExactBreadthOrder_j3 F r78 p110 = some r → K108 a w := by
                    intro p110 a w hS hM hF
                    unfold S_laws_FnExactBreadthOrder_j3 at hF
                    refine hK108 _ _ ?_
                    rcases ite_some hF with ⟨hc, hF⟩ | ⟨hc, hF⟩
                    · refine cond_t hS rfl hc ?_
                      refine wp_seq_k fun K111 hK111 => ?_
                      refine wp_region_lit ?_
                      refine st_val hS rfl rfl (by decide) (rv_assign (hS.ev rfl)) fun a hS => ?_
                      refine wpList_nil ?_
                      refine hK111 _ _ ?_
                      refine wp_ret ?_
                      cases hF
                      exact hQr _ _ (r_1 hS rfl rfl ⟨rfl, hM.pick [] (by decide) rfl⟩)
                    · refine cond_f hS rfl hc ?_
                      refine wp_skip ?_
                      refine hK102 _ _ ?_
                      refine wp_seq_k fun K112 hK112 => ?_
                      refine wp_region_lit ?_
                      refine st_val hS rfl rfl (by decide) (rv_assign (hS.ev rfl)) fun a hS => ?_
                      refine wpList_nil ?_
                      refine hK112 _ _ ?_
                      refine wp_seq_k fun K113 hK113 => ?_
                      refine wp_region_lit ?_
                      refine st_val hS rfl rfl (by decide) (rv_move (hS.ev rfl)) fun a hS => ?_
                      refine st_val hS rfl rfl (by decide) (rv_move (hS.ev rfl)) fun a hS => ?_
                      obtain ⟨r115, hr, hF⟩ := bind_some hF
                      refine st_wp hS rfl (wp_call hS rfl rfl (by decide) fn_ok_23 rfl (c_laws_heldIntS F r78.2 1 v33 hr _ (rd_of_ow (hM.get 0 rfl))) fun v w a hK hS => ?_)
                      obtain ⟨rfl, hN⟩ := hK
                      have hM := hM.fra hN.fr
                      refine st_val hS rfl rfl (by decide) (rv_assign (hS.ev rfl)) fun a hS => ?_
                      refine wpList_nil ?_
                      refine hK113 _ _ ?_
                      refine wp_seq_k fun K116 hK116 => ?_
                      refine wp_seq_k fun K119 hK119 => ?_
                      refine wp_region_lit ?_
                      refine st_val hS rfl rfl (by decide) (rv_move (hS.ev rfl)) fun a hS => ?_
                      refine st_val hS rfl rfl (by decide) (rv_lss (hS.ev rfl) (hS.ev rfl)) fun a hS => ?_
                      refine wpList_nil ?_
                      refine hK119 _ _ ?_
                      rcases ite_some hF with ⟨hc, hF⟩ | ⟨hc, hF⟩
                      · refine cond_t hS rfl hc ?_
                        refine wp_seq_k fun K120 hK120 => ?_
                        refine wp_region_lit ?_
                        refine st_val hS rfl rfl (by decide) (rv_assign (hS.ev rfl)) fun a hS => ?_
                        refine wpList_nil ?_
                        refine hK120 _ _ ?_
                        refine wp_ret ?_
                        cases hF
                        exact hQr _ _ (r_1 hS rfl rfl ⟨rfl, hM.pick [] (by decide) rfl⟩)
                      · refine cond_f hS rfl hc ?_
                        refine wp_skip ?_
                        refine hK116 _ _ ?_
                        refine wp_seq_k fun K121 hK121 => ?_
                        refine wp_seq_k fun K124 hK124 => ?_
                        refine wp_region_lit ?_
                        refine st_val hS rfl rfl (by decide) (rv_move (hS.ev rfl)) fun a hS => ?_
                        refine st_val hS rfl rfl (by decide) (rv_move (hS.ev rfl)) fun a hS => ?_
                        refine st_val hS rfl rfl (by decide) (rv_neq (hS.ev rfl) (hS.ev rfl)) fun a hS => ?_
                        refine wpList_nil ?_
                        refine hK124 _ _ ?_
                        rcases ite_some hF with ⟨hc, hF⟩ | ⟨hc, hF⟩
                        · refine cond_t hS rfl hc ?_
                          refine wp_seq_k fun K125 hK125 => ?_
                          refine wp_region_lit ?_
                          refine st_val hS rfl rfl (by decide) (rv_assign (hS.ev rfl)) fun a hS => ?_
                          refine wpList_nil ?_
                          refine hK125 _ _ ?_
                          refine wp_ret ?_
                          cases hF
                          exact hQr _ _ (r_1 hS rfl rfl ⟨rfl, hM.pick [] (by decide) rfl⟩)
                        · refine cond_f hS rfl hc ?_
                          refine wp_skip ?_
                          refine hK121 _ _ ?_
                          refine wp_seq_k fun K126 hK126 => ?_
                          refine wp_region_lit ?_
                          refine st_val hS rfl rfl (by decide) (rv_assign (hS.ev rfl)) fun a hS => ?_
                          refine wpList_nil ?_
                          refine hK126 _ _ ?_
                          refine wp_ret ?_
                          cases hF
                          exact hQr _ _ (r_1 hS rfl rfl ⟨rfl, hM.pick [] (by decide) rfl⟩)
                  refine wp_region_lit ?_
                  refine st_val hS rfl rfl (by decide) (rv_move (hS.ev rfl)) fun a hS => ?_
                  refine st_val hS rfl rfl (by decide) (rv_move (hS.ev rfl)) fun a hS => ?_
                  obtain ⟨r127, hr, hF⟩ := bind_some hF
                  refine st_wp hS rfl (wp_call hS rfl rfl (by decide) fn_ok_19 rfl (c_laws_eqIntS F r100.1 r20.1 v101 v21 hr _ (rd_of_ow (hM.get 0 rfl)) (rd_of_ow (hM.get 5 rfl))) fun v w a hK hS => ?_)
                  obtain ⟨rfl, hN⟩ := hK
                  have hM := hM.fra hN.fr
                  refine st_val hS rfl rfl (by decide) (rv_not (hS.ev rfl)) fun a hS => ?_
                  refine st_val hS rfl rfl (by decide) (rv_move (hS.ev rfl)) fun a hS => ?_
                  rcases ite_some hF with ⟨hc, hF⟩ | ⟨hc, hF⟩
                  · have hS := hS.setb (t := 88) rfl hc
                    refine st_skip hS rfl rfl (by decide) fun a hS => ?_
                    refine st_skip hS rfl rfl (by decide) fun a hS => ?_
                    refine st_skip hS rfl rfl (by decide) fun a hS => ?_
                    refine st_val hS rfl rfl (by decide) (rv_pick_t (hS.ev rfl) (hS.ev rfl)) fun a hS => ?_
                    refine wpList_nil ?_
                    exact hJ3 true _ _ (hS.sub (sub_cons rfl (sub_cons rfl (sub_cons rfl sub_nil)))) (hM.pick [2] (by decide) rfl) hF
                  · have hS := hS.setb (t := 88) rfl hc
                    refine st_val hS rfl rfl (by decide) (rv_move (hS.ev rfl)) fun a hS => ?_
                    refine st_val hS rfl rfl (by decide) (rv_move (hS.ev rfl)) fun a hS => ?_
                    refine st_val hS rfl rfl (by decide) (rv_bneq Try.underlying4 (hS.ev rfl) (hS.ev rfl)) fun a hS => ?_
                    refine st_val hS rfl rfl (by decide) (rv_pick_f (hS.ev rfl) (hS.ev rfl)) fun a hS => ?_
                    refine wpList_nil ?_
                    exact hJ3 (r100.2 != r20.2) _ _ (hS.sub (sub_cons rfl (sub_cons rfl (sub_cons rfl sub_nil)))) (hM.pick [2] (by decide) rfl) hF
          refine wp_region_lit ?_
          refine st_val hS rfl rfl (by decide) (rv_move (hS.ev rfl)) fun a hS => ?_
          refine st_val hS rfl rfl (by decide) (rv_lss (hS.ev rfl) (hS.ev rfl)) fun a hS => ?_
          refine st_val hS rfl rfl (by decide) (rv_move (hS.ev rfl)) fun a hS => ?_
          rcases ite_some hF with ⟨hc, hF⟩ | ⟨hc, hF⟩
          · have hS := hS.setb (t := 55) rfl hc
            refine st_skip hS rfl rfl (by decide) fun a hS => ?_
            refine st_skip hS rfl rfl (by decide) fun a hS => ?_
            refine st_skip hS rfl rfl (by decide) fun a hS => ?_
            refine st_skip hS rfl rfl (by decide) fun a hS => ?_
            refine st_val hS rfl rfl (by decide) (rv_pick_t (hS.ev rfl) (hS.ev rfl)) fun a hS => ?_
            refine st_val hS rfl rfl (by decide) (rv_move (hS.ev rfl)) fun a hS => ?_
            refine st_skip hS rfl rfl (by decide) fun a hS => ?_
            refine st_skip hS rfl rfl (by decide) fun a hS => ?_
            refine st_skip hS rfl rfl (by decide) fun a hS => ?_
            refine st_val hS rfl rfl (by decide) (rv_pick_t (hS.ev rfl) (hS.ev rfl)) fun a hS => ?_
            refine wpList_nil ?_
            exact hJ2 true _ _ (hS.sub (sub_cons rfl (sub_cons rfl (sub_cons rfl (sub_cons rfl (sub_cons rfl (sub_cons rfl sub_nil))))))) (hM.pick [2, 3, 4, 6] (by decide) rfl) hF
          · have hS := hS.setb (t := 55) rfl hc
            refine st_val hS rfl rfl (by decide) (rv_move (hS.ev rfl)) fun a hS => ?_
            refine st_val hS rfl rfl (by decide) (rv_move (hS.ev rfl)) fun a hS => ?_
            obtain ⟨r128, hr, hF⟩ := bind_some hF
            refine st_wp hS rfl (wp_call hS rfl rfl (by decide) fn_ok_19 rfl (c_laws_eqIntS F r32.1 r20.1 v33 v21 hr _ (rd_of_ow (hM.get 6 rfl)) (rd_of_ow (hM.get 4 rfl))) fun v w a hK hS => ?_)
            obtain ⟨rfl, hN⟩ := hK
            have hM := hM.fra hN.fr
            refine st_val hS rfl rfl (by decide) (rv_not (hS.ev rfl)) fun a hS => ?_
            refine st_val hS rfl rfl (by decide) (rv_pick_f (hS.ev rfl) (hS.ev rfl)) fun a hS => ?_
            refine st_val hS rfl rfl (by decide) (rv_move (hS.ev rfl)) fun a hS => ?_
            rcases ite_some hF with ⟨hc, hF⟩ | ⟨hc, hF⟩
            · have hS := hS.setb (t := 61) rfl hc
              refine st_skip hS rfl rfl (by decide) fun a hS => ?_
              refine st_skip hS rfl rfl (by decide) fun a hS => ?_
              refine st_skip hS rfl rfl (by decide) fun a hS => ?_
              refine st_val hS rfl rfl (by decide) (rv_pick_t (hS.ev rfl) (hS.ev rfl)) fun a hS => ?_
              refine wpList_nil ?_
              exact hJ2 true _ _ (hS.sub (sub_cons rfl (sub_cons rfl (sub_cons rfl (sub_cons rfl (sub_cons rfl (sub_cons rfl sub_nil))))))) (hM.pick [2, 3, 4, 6] (by decide) rfl) hF
            · have hS := hS.setb (t := 61) rfl hc
              refine st_val hS rfl rfl (by decide) (rv_move (hS.ev rfl)) fun a hS => ?_
              refine st_val hS rfl rfl (by decide) (rv_move (hS.ev rfl)) fun a hS => ?_
              refine st_val hS rfl rfl (by decide) (rv_bneq Try.underlying4 (hS.ev rfl) (hS.ev rfl)) fun a hS => ?_
              refine st_val hS rfl rfl (by decide) (rv_pick_f (hS.ev rfl) (hS.ev rfl)) fun a hS => ?_
              refine wpList_nil ?_
              exact hJ2 (r32.2 != r20.2) _ _ (hS.sub (sub_cons rfl (sub_cons rfl (sub_cons rfl (sub_cons rfl (sub_cons rfl (sub_cons rfl sub_nil))))))) (hM.pick [2, 3, 4, 6] (by decide) rfl) hF
    refine wp_region_lit ?_
    refine st_val hS rfl rfl (by decide) (rv_move (hS.ev rfl)) fun a hS => ?_
    refine st_val hS rfl rfl (by decide) (rv_move (hS.ev rfl)) fun a hS => ?_
    obtain ⟨r129, hr, hF⟩ := bind_some hF
    refine st_wp hS rfl (wp_call hS rfl rfl (by decide) fn_ok_19 rfl (c_laws_eqIntS F r32.1 r20.1 v33 v21 hr _ (rd_of_ow (hM.get 0 rfl)) (rd_of_ow (hM.get 4 rfl))) fun v w a hK hS => ?_)
    obtain ⟨rfl, hN⟩ := hK
    have hM := hM.fra hN.fr
    refine st_val hS rfl rfl (by decide) (rv_not (hS.ev rfl)) fun a hS => ?_
    refine st_val hS rfl rfl (by decide) (rv_move (hS.ev rfl)) fun a hS => ?_
    rcases ite_some hF with ⟨hc, hF⟩ | ⟨hc, hF⟩
    · have hS := hS.setb (t := 40) rfl hc
      refine st_skip hS rfl rfl (by decide) fun a hS => ?_
      refine st_skip hS rfl rfl (by decide) fun a hS => ?_
      refine st_skip hS rfl rfl (by decide) fun a hS => ?_
      refine st_val hS rfl rfl (by decide) (rv_pick_t (hS.ev rfl) (hS.ev rfl)) fun a hS => ?_
      refine wpList_nil ?_
      exact hJ1 true _ _ (hS.sub (sub_cons rfl (sub_cons rfl (sub_cons rfl (sub_cons rfl (sub_cons rfl (sub_cons rfl (sub_cons rfl (sub_cons rfl sub_nil))))))))) (hM.pick [6, 7, 4, 1, 3, 0] (by decide) rfl) hF
    · have hS := hS.setb (t := 40) rfl hc
      refine st_val hS rfl rfl (by decide) (rv_move (hS.ev rfl)) fun a hS => ?_
      refine st_val hS rfl rfl (by decide) (rv_move (hS.ev rfl)) fun a hS => ?_
      refine st_val hS rfl rfl (by decide) (rv_bneq Try.underlying4 (hS.ev rfl) (hS.ev rfl)) fun a hS => ?_
      refine st_val hS rfl rfl (by decide) (rv_pick_f (hS.ev rfl) (hS.ev rfl)) fun a hS => ?_
      refine wpList_nil ?_
      exact hJ1 (r32.2 != r20.2) _ _ (hS.sub (sub_cons rfl (sub_cons rfl (sub_cons rfl (sub_cons rfl (sub_cons rfl (sub_cons rfl (sub_cons rfl (sub_cons rfl sub_nil))))))))) (hM.pick [6, 7, 4, 1, 3, 0] (by decide) rfl) hF


end Go.Proofs.Ytnlabnkgcncmlaa
