/- Proved here: that each Go function does what its shallow function says -/
import Derived.Test.YtilfniehellmmaaSh
import Derived.Test.YtilfniehellmmaaTy
import Derived.Test.YtilfniehellmmaaK13
import Derived.Test.YtilfniehellmmaaW0
import Derived.Test.YtilfniehellmmaaW1
import Derived.Test.YtilfniehellmmaaW2
namespace Go.Proofs.Ytilfniehellmmaa
open Go Go.RowKit
set_option linter.unusedVariables false
set_option linter.unusedSimpArgs false
set_option maxRecDepth 100000
set_option maxHeartbeats 40000000

open Go.IntKind (i64)
open Go.Value (int)
theorem c_impl_greedyOrder__CardinalityOrderc1 (F : Nat) (p0_g_Size : Int) (p0_g_Rows : List Int) (p1_start : Int) (p2_number_c0_Size : Int) (p2_number_c0_Rows : List Int) (p0_g_Rowsv : Value) (p2_number_c0_Rowsv : Value) (p2_number_c0b : Nat) {r : (List (Int)) × Bool} (hF : S_impl_greedyOrder__CardinalityOrderc1 F p0_g_Size p0_g_Rows p1_start p2_number_c0_Size p2_number_c0_Rows = some r) (w0 : World) (h0 : RdRow w0 p0_g_Rowsv (List.map (int i64) p0_g_Rows)) (h1 : RdRow w0 p2_number_c0_Rowsv (List.map (int i64) p2_number_c0_Rows)) (h2 : (bx p2_number_c0b 28 [(int i64 p2_number_c0_Size), p2_number_c0_Rowsv]).P w0) :
    Calls Try.prog 96 [(Value.agg #[(int i64 p0_g_Size), p0_g_Rowsv]), (int i64 p1_start), (Value.func (Fn.func 100) #[] #[(fdp p2_number_c0b 0)])].toArray w0 (retPost fun v w' => ∃ v428, v = (Value.tuple #[v428, (Value.bool r.2)]) ∧ Mem Nob w0 w' [(true, ow 3 v428 (List.map (int i64) r.1))]) := by
 have hM : Mem Nob w0 w0 [(false, rd p0_g_Rowsv (List.map (int i64) p0_g_Rows)), (false, rd p2_number_c0_Rowsv (List.map (int i64) p2_number_c0_Rows)), (false, bx p2_number_c0b 28 [(int i64 p2_number_c0_Size), p2_number_c0_Rowsv])] := (Mem.rcons (Mem.rcons (Mem.gcons (Mem.nil w0) h2 (by simp)) h1 (by simp)) h0 (by simp))
 refine enter2 Try.func96 rfl rfl rfl fun Q a hQr hQn hQp hS => ?_
 have hS : Sl 51 [(0, (Value.agg #[(int i64 p0_g_Size), p0_g_Rowsv])), (1, (int i64 p1_start)), (2, (Value.func (Fn.func 100) #[] #[(fdp p2_number_c0b 0)]))] a := hS
 unfold S_impl_greedyOrder__CardinalityOrderc1 at hF
 refine wp_seq_k fun K1 hK1 => ?_
 refine wp_region_lit ?_
 obtain ⟨b3, w, hr, hM⟩ := hM.boxE (ρ := a.eval) (dst := some 3) (ty := _) (pos := _) (af := _) (gd := _) (x := .tmp 0) (T := 28) [(int i64 p0_g_Size), p0_g_Rowsv] (hS.ev rfl) rfl
 refine st_val hS rfl rfl (by decide) hr fun a hS => ?_
 refine st_val hS rfl rfl (by decide) (rv_assign (hS.ev rfl)) fun a hS => ?_
 refine st_val hS rfl rfl (by decide) (rv_assign (hS.ev rfl)) fun a hS => ?_
 refine wpList_nil ?_
 refine hK1 _ _ ?_
 refine wp_seq_k fun K4 hK4 => ?_
 refine wp_seq_k fun K11 hK11 => ?_
 refine wp_region_lit ?_
 refine st_val hS rfl rfl (by decide) (rv_load_agg (hS.ev rfl) ty_ag_28 (hM.get 0 rfl) ty_sz_28) fun a hS => ?_
 refine st_val hS rfl rfl (by decide) (rv_move (hS.ev rfl)) fun a hS => ?_
 obtain ⟨v14, w, hr, hM⟩ := Mem.litE (f := (int i64)) (dst := some 15) (ty := _) (pos := _) (af := _) (gd := _) (ps := [(0, .tmp 14)]) ([p1_start] : List (Int)) i64_one hM hS Try.underlying22 ty_el_3 rfl rfl rfl rfl
 refine st_val hS rfl rfl (by decide) hr fun a hS => ?_
 obtain ⟨r15, hr, hF⟩ := bind_some hF
 refine st_wp hS rfl (wp_call hS rfl rfl (by decide) fn_ok_104 rfl (c_impl_isVertex F p0_g_Size p0_g_Rows ([p1_start] : List (Int)) p0_g_Rowsv v14 hr _ (hM.get 2 rfl) (rd_of_ow (hM.get 0 rfl))) fun v w a hK hS => ?_)
 obtain ⟨rfl, hN⟩ := hK
 have hM := hM.fra hN.fr
 refine st_val hS rfl rfl (by decide) (rv_not (hS.ev rfl)) fun a hS => ?_
 refine wpList_nil ?_
 refine hK11 _ _ ?_
 rcases ite_some hF with ⟨hc, hF⟩ | ⟨hc, hF⟩
 ·refine cond_t hS rfl hc ?_
  refine wp_seq_k fun K16 hK16 => ?_
  refine wp_region_lit ?_
  refine st_val hS rfl rfl (by decide) (rv_assign (hS.ev rfl)) fun a hS => ?_
  refine st_val hS rfl rfl (by decide) (rv_assign (hS.ev rfl)) fun a hS => ?_
  refine wpList_nil ?_
  refine hK16 _ _ ?_
  have hS : Sl 51 [(6, (Value.slice none 0 0)), (7, (Value.bool false))] a := hS.sub (sub_cons rfl (sub_cons rfl sub_nil))
  have hM := hM.pick [] (by decide) rfl
  refine wp_ret ?_
  cases hF
  have hM := hM.addNil 3
  exact hQr _ _ (r_2 hS rfl rfl rfl ⟨(Value.slice none 0 0), rfl, hM.pick [0] (by decide) rfl⟩)
 ·refine cond_f hS rfl hc ?_
  refine wp_skip ?_
  refine hK4 _ _ ?_
  have hS : Sl 51 [(1, (int i64 p1_start)), (2, (Value.func (Fn.func 100) #[] #[(fdp p2_number_c0b 0)])), (3, (fdp b3 0))] a := hS.sub (sub_cons rfl (sub_cons rfl (sub_cons rfl sub_nil)))
  have hM := hM.pick [1, 2, 3, 4] (by decide) rfl
  refine wp_seq_k fun K17 hK17 => ?_
  refine wp_region_lit ?_
  refine st_val hS rfl rfl (by decide) (rv_move (hS.ev rfl)) fun a hS => ?_
  obtain ⟨v19, w, hr, hM⟩ := Mem.litE (f := (int i64)) (dst := some 19) (ty := _) (pos := _) (af := _) (gd := _) (ps := [(0, .tmp 18)]) ([p1_start] : List (Int)) i64_one hM hS Try.underlying22 ty_el_3 rfl rfl rfl rfl
  refine st_val hS rfl rfl (by decide) hr fun a hS => ?_
  refine st_val hS rfl rfl (by decide) (rv_assign (hS.ev rfl)) fun a hS => ?_
  refine wpList_nil ?_
  refine hK17 _ _ ?_
  refine wp_seq_k fun K20 hK20 => ?_
  have hJ1 : ∀ (l224 : List Int) (v223 : Value) (a : Act) (w : World), Sl 51 [(8, v223)] a → Mem Nob w0 w [(true, ow 3 v223 (List.map (int i64) l224))] → S_impl_greedyOrder__CardinalityOrderc1_j1 F l224 = some r → K20 a w := by
   intro l224 v223 a w hS hM hF
   unfold S_impl_greedyOrder__CardinalityOrderc1_j1 at hF
   refine hK20 _ _ ?_
   refine wp_seq_k fun K225 hK225 => ?_
   refine wp_region_lit ?_
   refine st_val hS rfl rfl (by decide) (rv_move (hS.ev rfl)) fun a hS => ?_
   refine st_val hS rfl rfl (by decide) (rv_assign (hS.ev rfl)) fun a hS => ?_
   refine st_val hS rfl rfl (by decide) (rv_assign (hS.ev rfl)) fun a hS => ?_
   refine wpList_nil ?_
   refine hK225 _ _ ?_
   refine wp_ret ?_
   cases hF
   exact hQr _ _ (r_2 hS rfl rfl rfl ⟨v223, rfl, hM.pick [0] (by decide) rfl⟩)
  refine wp_block ?_
  obtain ⟨lb2, hl2, hF2⟩ := bind_some hF
  refine wp_loop_sh (fun s => S_impl_greedyOrder__CardinalityOrderc1_l2 F p0_g_Size p2_number_c0_Size p2_number_c0_Rows s) (fun s a w => ∃ (v226 : Value), Sl 51 [(2, (Value.func (Fn.func 100) #[] #[(fdp p2_number_c0b 0)])), (3, (fdp b3 0)), (8, v226)] a ∧ Mem Nob w0 w [(false, bx p2_number_c0b 28 [(int i64 p2_number_c0_Size), p2_number_c0_Rowsv]), (false, rd p2_number_c0_Rowsv (List.map (int i64) p2_number_c0_Rows)), (true, bx b3 28 [(int i64 p0_g_Size), p0_g_Rowsv]), (false, rd p0_g_Rowsv (List.map (int i64) p0_g_Rows)), (true, ow 3 v226 (List.map (int i64) s))]) hl2 ⟨v19, (hS.sub (sub_cons rfl (sub_cons rfl (sub_cons rfl sub_nil)))), (hM.pick [4, 3, 1, 2, 0] (by decide) rfl)⟩ ?_
  rintro K2 l227 a w res2 ⟨v226, hS, hM⟩ hF hN2 hX2
  have hF : S_impl_greedyOrder__CardinalityOrderc1_l2 F p0_g_Size p2_number_c0_Size p2_number_c0_Rows l227 = some res2 := hF
  have hS : Sl 51 [(2, (Value.func (Fn.func 100) #[] #[(fdp p2_number_c0b 0)])), (3, (fdp b3 0)), (8, v226)] a := hS
  have hM : Mem Nob w0 w [(false, bx p2_number_c0b 28 [(int i64 p2_number_c0_Size), p2_number_c0_Rowsv]), (false, rd p2_number_c0_Rowsv (List.map (int i64) p2_number_c0_Rows)), (true, bx b3 28 [(int i64 p0_g_Size), p0_g_Rowsv]), (false, rd p0_g_Rowsv (List.map (int i64) p0_g_Rows)), (true, ow 3 v226 (List.map (int i64) l227))] := hM
  unfold S_impl_greedyOrder__CardinalityOrderc1_l2 at hF
  refine wp_seq_k fun K328 hK328 => ?_
  refine wp_seq_k fun K330 hK330 => ?_
  refine wp_region_lit ?_
  refine st_val hS rfl rfl (by decide) (rv_move (hS.ev rfl)) fun a hS => ?_
  refine st_val hS rfl rfl (by decide) (rv_len_rowM Try.underlying22 (hS.ev rfl) (rd_of_ow (hM.get 4 rfl))) fun a hS => ?_
  refine st_val hS rfl rfl (by decide) (rv_fieldAddr ty_fd_28_0 (hS.ev rfl)) fun a hS => ?_
  refine st_val hS rfl rfl (by decide) (rv_load_bx (hS.ev rfl) ty_ag_3 (hM.get 2 rfl) rfl) fun a hS => ?_
  refine st_val hS rfl rfl (by decide) (rv_lss (hS.ev rfl) (hS.ev rfl)) fun a hS => ?_
  refine wpList_nil ?_
  refine hK330 _ _ ?_
  rcases ite_some hF with ⟨hc, hF⟩ | ⟨hc, hF⟩
  ·refine cond_t hS rfl hc ?_
   refine wp_skip ?_
   refine hK328 _ _ ?_
   refine wp_block ?_
   refine wp_seq_k fun K331 hK331 => ?_
   refine wp_region_lit ?_
   refine st_val hS rfl rfl (by decide) (rv_assign (hS.ev rfl)) fun a hS => ?_
   refine st_val hS rfl rfl (by decide) (rv_assign (hS.ev rfl)) fun a hS => ?_
   refine wpList_nil ?_
   refine hK331 _ _ ?_
   refine wp_seq_k fun K332 hK332 => ?_
   have hJ3 : ∀ (x379 : Int) (a : Act) (w : World), Sl 51 [(2, (Value.func (Fn.func 100) #[] #[(fdp p2_number_c0b 0)])), (3, (fdp b3 0)), (8, v226), (9, (int i64 x379))] a → Mem Nob w0 w [(false, bx p2_number_c0b 28 [(int i64 p2_number_c0_Size), p2_number_c0_Rowsv]), (false, rd p2_number_c0_Rowsv (List.map (int i64) p2_number_c0_Rows)), (true, bx b3 28 [(int i64 p0_g_Size), p0_g_Rowsv]), (false, rd p0_g_Rowsv (List.map (int i64) p0_g_Rows)), (true, ow 3 v226 (List.map (int i64) l227))] → S_impl_greedyOrder__CardinalityOrderc1_j3 F l227 x379 = some res2 → K332 a w := by
    intro x379 a w hS hM hF
    unfold S_impl_greedyOrder__CardinalityOrderc1_j3 at hF
    refine hK332 _ _ ?_
    refine wp_region_lit ?_
    refine st_val hS rfl rfl (by decide) (rv_move (hS.ev rfl)) fun a hS => ?_
    refine st_val hS rfl rfl (by decide) (rv_move (hS.ev rfl)) fun a hS => ?_
    obtain ⟨v380, w, hr, hM⟩ := Mem.litE (f := (int i64)) (dst := some 48) (ty := _) (pos := _) (af := _) (gd := _) (ps := [(0, .tmp 47)]) ([x379] : List (Int)) i64_one hM hS Try.underlying22 ty_el_3 rfl rfl rfl rfl
    refine st_val hS rfl rfl (by decide) hr fun a hS => ?_
    obtain ⟨_, hx, hF⟩ := bind_some hF
    have hM := hM.pick [5, 0, 1, 2, 3, 4] (by decide) rfl
    obtain ⟨v381, w, hr, hM⟩ := Mem.appE (f := (int i64)) (S := _) (R := [(true, ow 3 v380 (List.map (int i64) ([x379] : List (Int)))), (false, bx p2_number_c0b 28 [(int i64 p2_number_c0_Size), p2_number_c0_Rowsv]), (false, rd p2_number_c0_Rowsv (List.map (int i64) p2_number_c0_Rows)), (true, bx b3 28 [(int i64 p0_g_Size), p0_g_Rowsv]), (false, rd p0_g_Rowsv (List.map (int i64) p0_g_Rows))]) (ρ := a.eval) (dst := some 49) (ty := _) (pos := _) (af := _) (gd := _) (x := .tmp 46) (y := .tmp 48) i64_one hM Try.underlying22 ty_el_3 rfl (by decide) (hS.ev rfl) (hS.ev rfl) (rd_of_ow (hM.get 1 rfl)) (catO_some hx)
    refine st_val hS rfl rfl (by decide) hr fun a hS => ?_
    refine st_val hS rfl rfl (by decide) (rv_assign (hS.ev rfl)) fun a hS => ?_
    refine wpList_nil ?_
    cases hF
    exact hN2 _ _ _ rfl ⟨v381, (hS.sub (sub_cons rfl (sub_cons rfl (sub_cons rfl sub_nil)))), (hM.pick [2, 3, 4, 5, 0] (by decide) rfl)⟩
   refine wp_seq_k fun K382 hK382 => ?_
   refine wp_region_lit ?_
   refine st_val hS rfl rfl (by decide) (rv_fieldAddr ty_fd_28_0 (hS.ev rfl)) fun a hS => ?_
   refine st_val hS rfl rfl (by decide) (rv_load_bx (hS.ev rfl) ty_ag_3 (hM.get 2 rfl) rfl) fun a hS => ?_
   refine st_val hS rfl rfl (by decide) (rv_move (hS.ev rfl)) fun a hS => ?_
   refine wpList_nil ?_
   refine hK382 _ _ ?_
   refine wp_block ?_
   obtain ⟨lb4, hl4, hF4⟩ := bind_some hF
   refine wp_loop_sh (fun s => S_impl_greedyOrder__CardinalityOrderc1_l4 F p0_g_Size p2_number_c0_Size p2_number_c0_Rows l227 s.1 s.2.1 s.2.2) (fun s a w => Sl 51 [(2, (Value.func (Fn.func 100) #[] #[(fdp p2_number_c0b 0)])), (3, (fdp b3 0)), (8, v226), (9, (int i64 s.1)), (10, (int i64 s.2.1)), (26, (int i64 p0_g_Size)), (27, (int i64 s.2.2))] a ∧ Mem Nob w0 w [(false, bx p2_number_c0b 28 [(int i64 p2_number_c0_Size), p2_number_c0_Rowsv]), (false, rd p2_number_c0_Rowsv (List.map (int i64) p2_number_c0_Rows)), (true, bx b3 28 [(int i64 p0_g_Size), p0_g_Rowsv]), (false, rd p0_g_Rowsv (List.map (int i64) p0_g_Rows)), (true, ow 3 v226 (List.map (int i64) l227))]) hl4 ⟨(hS.sub (sub_cons rfl (sub_cons rfl (sub_cons rfl (sub_cons rfl (sub_cons rfl (sub_cons rfl (sub_cons rfl sub_nil)))))))), (hM.pick [0, 1, 2, 3, 4] (by decide) rfl)⟩ ?_
   rintro K4 ⟨x383, x384, x385⟩ a w res4 ⟨hS, hM⟩ hF hN4 hX4
   have hF : S_impl_greedyOrder__CardinalityOrderc1_l4 F p0_g_Size p2_number_c0_Size p2_number_c0_Rows l227 x383 x384 x385 = some res4 := hF
   have hS : Sl 51 [(2, (Value.func (Fn.func 100) #[] #[(fdp p2_number_c0b 0)])), (3, (fdp b3 0)), (8, v226), (9, (int i64 x383)), (10, (int i64 x384)), (26, (int i64 p0_g_Size)), (27, (int i64 x385))] a := hS
   have hM : Mem Nob w0 w [(false, bx p2_number_c0b 28 [(int i64 p2_number_c0_Size), p2_number_c0_Rowsv]), (false, rd p2_number_c0_Rowsv (List.map (int i64) p2_number_c0_Rows)), (true, bx b3 28 [(int i64 p0_g_Size), p0_g_Rowsv]), (false, rd p0_g_Rowsv (List.map (int i64) p0_g_Rows)), (true, ow 3 v226 (List.map (int i64) l227))] := hM
   unfold S_impl_greedyOrder__CardinalityOrderc1_l4 at hF
   refine wp_seq_k fun K407 hK407 => ?_
   refine wp_region_lit ?_
   refine st_val hS rfl rfl (by decide) (rv_lss (hS.ev rfl) (hS.ev rfl)) fun a hS => ?_
   refine wpList_nil ?_
   refine hK407 _ _ ?_
   refine wp_seq_k fun K408 hK408 => ?_
   rcases ite_some hF with ⟨hc, hF⟩ | ⟨hc, hF⟩
   ·refine cond_t hS rfl hc ?_
    refine wp_skip ?_
    refine hK408 _ _ ?_
    refine wp_seq_k fun K409 hK409 => ?_
    have hJ5 : ∀ (x418 : Int) (x419 : Int) (a : Act) (w : World), Sl 51 [(2, (Value.func (Fn.func 100) #[] #[(fdp p2_number_c0b 0)])), (3, (fdp b3 0)), (8, v226), (9, (int i64 x418)), (10, (int i64 x419)), (26, (int i64 p0_g_Size)), (27, (int i64 x385))] a → Mem Nob w0 w [(false, bx p2_number_c0b 28 [(int i64 p2_number_c0_Size), p2_number_c0_Rowsv]), (false, rd p2_number_c0_Rowsv (List.map (int i64) p2_number_c0_Rows)), (true, bx b3 28 [(int i64 p0_g_Size), p0_g_Rowsv]), (false, rd p0_g_Rowsv (List.map (int i64) p0_g_Rows)), (true, ow 3 v226 (List.map (int i64) l227))] → S_impl_greedyOrder__CardinalityOrderc1_j5 F x385 x418 x419 = some res4 → K409 a w := by
     intro x418 x419 a w hS hM hF
     unfold S_impl_greedyOrder__CardinalityOrderc1_j5 at hF
     refine hK409 _ _ ?_
     refine wp_region_lit ?_
     refine st_val hS rfl rfl (by decide) (rv_add (hS.ev rfl) (hS.ev rfl)) fun a hS => ?_
     refine st_val hS rfl rfl (by decide) (rv_move (hS.ev rfl)) fun a hS => ?_
     refine wpList_nil ?_
     cases hF
     exact hN4 _ _ _ rfl ⟨(hS.sub (sub_cons rfl (sub_cons rfl (sub_cons rfl (sub_cons rfl (sub_cons rfl (sub_cons rfl (sub_cons rfl sub_nil)))))))), (hM.pick [0, 1, 2, 3, 4] (by decide) rfl)⟩
    refine wp_block ?_
    refine wp_seq_k fun K420 hK420 => ?_
    refine wp_region_lit ?_
    refine st_val hS rfl rfl (by decide) (rv_move (hS.ev rfl)) fun a hS => ?_
    refine st_val hS rfl rfl (by decide) (rv_assign (hS.ev rfl)) fun a hS => ?_
    refine wpList_nil ?_
    refine hK420 _ _ ?_
    refine wp_seq_k fun K421 hK421 => ?_
    refine wp_region_lit ?_
    refine st_val hS rfl rfl (by decide) (rv_move (hS.ev rfl)) fun a hS => ?_
    refine st_val hS rfl rfl (by decide) (rv_move (hS.ev rfl)) fun a hS => ?_
    refine st_val hS rfl rfl (by decide) (rv_move (hS.ev rfl)) fun a hS => ?_
    obtain ⟨r423, hr, hF⟩ := bind_some hF
    refine st_wp hS rfl (wp_callv (vs := [(int i64 x385), v226]) (cap := [(fdp p2_number_c0b 0)]) hS rfl rfl rfl (by decide) fn_ok_100 rfl (c_impl_CardinalityOrder_c1 F x385 l227 p2_number_c0_Size p2_number_c0_Rows v226 p2_number_c0_Rowsv p2_number_c0b hr _ (rd_of_ow (hM.get 4 rfl)) (hM.get 1 rfl) (hM.get 0 rfl)) fun v w a hK hS => ?_)
    obtain ⟨rfl, hN⟩ := hK
    have hM := hM.fra hN.fr
    refine st_val hS rfl rfl (by decide) (rv_assign (hS.ev rfl)) fun a hS => ?_
    refine wpList_nil ?_
    refine hK421 _ _ ?_
    refine wp_seq_k fun K424 hK424 => ?_
    have hJ6 : ∀ (p426 : Bool) (a : Act) (w : World), Sl 51 [(2, (Value.func (Fn.func 100) #[] #[(fdp p2_number_c0b 0)])), (3, (fdp b3 0)), (8, v226), (9, (int i64 x383)), (10, (int i64 x384)), (11, (int i64 x385)), (12, (int i64 r423)), (26, (int i64 p0_g_Size)), (27, (int i64 x385)), (42, (Value.bool p426))] a → Mem Nob w0 w [(false, bx p2_number_c0b 28 [(int i64 p2_number_c0_Size), p2_number_c0_Rowsv]), (false, rd p2_number_c0_Rowsv (List.map (int i64) p2_number_c0_Rows)), (true, bx b3 28 [(int i64 p0_g_Size), p0_g_Rowsv]), (false, rd p0_g_Rowsv (List.map (int i64) p0_g_Rows)), (true, ow 3 v226 (List.map (int i64) l227))] → S_impl_greedyOrder__CardinalityOrderc1_j6 F x383 x384 x385 r423 p426 = some res4 → K424 a w := by
     intro p426 a w hS hM hF
     unfold S_impl_greedyOrder__CardinalityOrderc1_j6 at hF
     refine hK424 _ _ ?_
     rcases ite_some hF with ⟨hc, hF⟩ | ⟨hc, hF⟩
     ·refine cond_t hS rfl hc ?_
      refine wp_region_lit ?_
      refine st_val hS rfl rfl (by decide) (rv_move (hS.ev rfl)) fun a hS => ?_
      refine st_val hS rfl rfl (by decide) (rv_move (hS.ev rfl)) fun a hS => ?_
      refine st_val hS rfl rfl (by decide) (rv_assign (hS.ev rfl)) fun a hS => ?_
      refine st_val hS rfl rfl (by decide) (rv_assign (hS.ev rfl)) fun a hS => ?_
      refine wpList_nil ?_
      exact hJ5 x385 r423 _ _ (hS.sub (sub_cons rfl (sub_cons rfl (sub_cons rfl (sub_cons rfl (sub_cons rfl (sub_cons rfl (sub_cons rfl sub_nil)))))))) (hM.pick [0, 1, 2, 3, 4] (by decide) rfl) hF
     ·refine cond_f hS rfl hc ?_
      refine wp_skip ?_
      exact hJ5 x383 x384 _ _ (hS.sub (sub_cons rfl (sub_cons rfl (sub_cons rfl (sub_cons rfl (sub_cons rfl (sub_cons rfl (sub_cons rfl sub_nil)))))))) (hM.pick [0, 1, 2, 3, 4] (by decide) rfl) hF
    refine wp_region_lit ?_
    refine st_val hS rfl rfl (by decide) (rv_move (hS.ev rfl)) fun a hS => ?_
    refine st_val hS rfl rfl (by decide) (rv_move (hS.ev rfl)) fun a hS => ?_
    obtain ⟨r427, hr, hF⟩ := bind_some hF
    refine st_wp hS rfl (wp_call hS rfl rfl (by decide) fn_ok_106 rfl (c_slices_Contains_int F l227 x385 v226 hr _ (rd_of_ow (hM.get 4 rfl))) fun v w a hK hS => ?_)
    obtain ⟨rfl, hN⟩ := hK
    have hM := hM.fra hN.fr
    refine st_val hS rfl rfl (by decide) (rv_not (hS.ev rfl)) fun a hS => ?_
    refine st_val hS rfl rfl (by decide) (rv_move (hS.ev rfl)) fun a hS => ?_
    rcases ite_some hF with ⟨hc, hF⟩ | ⟨hc, hF⟩
    ·have hS := hS.setb (t := 38) rfl hc
     refine st_val hS rfl rfl (by decide) (rv_move (hS.ev rfl)) fun a hS => ?_
     refine st_val hS rfl rfl (by decide) (rv_move (hS.ev rfl)) fun a hS => ?_
     refine st_val hS rfl rfl (by decide) (rv_gtr (hS.ev rfl) (hS.ev rfl)) fun a hS => ?_
     refine st_val hS rfl rfl (by decide) (rv_pick_t (hS.ev rfl) (hS.ev rfl)) fun a hS => ?_
     refine wpList_nil ?_
     exact hJ6 (decide (x384 < r423)) _ _ (hS.sub (sub_cons rfl (sub_cons rfl (sub_cons rfl (sub_cons rfl (sub_cons rfl (sub_cons rfl (sub_cons rfl (sub_cons rfl (sub_cons rfl (sub_cons rfl sub_nil))))))))))) (hM.pick [0, 1, 2, 3, 4] (by decide) rfl) hF
    ·have hS := hS.setb (t := 38) rfl hc
     refine st_skip hS rfl rfl (by decide) fun a hS => ?_
     refine st_skip hS rfl rfl (by decide) fun a hS => ?_
     refine st_skip hS rfl rfl (by decide) fun a hS => ?_
     refine st_val hS rfl rfl (by decide) (rv_pick_f (hS.ev rfl) (hS.ev rfl)) fun a hS => ?_
     refine wpList_nil ?_
     exact hJ6 false _ _ (hS.sub (sub_cons rfl (sub_cons rfl (sub_cons rfl (sub_cons rfl (sub_cons rfl (sub_cons rfl (sub_cons rfl (sub_cons rfl (sub_cons rfl (sub_cons rfl sub_nil))))))))))) (hM.pick [0, 1, 2, 3, 4] (by decide) rfl) hF
   ·refine cond_f hS rfl hc ?_
    refine wp_exit ?_
    cases hF
    exact hJ3 x383 _ _ (hS.sub (sub_cons rfl (sub_cons rfl (sub_cons rfl (sub_cons rfl sub_nil))))) (hM.pick [0, 1, 2, 3, 4] (by decide) rfl) (by have e := hX4 _ rfl; subst e; exact hF4)
  ·refine cond_f hS rfl hc ?_
   refine wp_exit ?_
   cases hF
   exact hJ1 l227 v226 _ _ (hS.sub (sub_cons rfl sub_nil)) (hM.pick [4] (by decide) rfl) (by have e := hX2 _ rfl; subst e; exact hF2)


theorem c_impl_CardinalityOrder (F : Nat) (p0_g_Size : Int) (p0_g_Rows : List Int) (p1_start : Int) (p0_g_Rowsv : Value) {r : (List (Int)) × Bool} (hF : S_impl_CardinalityOrder F p0_g_Size p0_g_Rows p1_start = some r) (w0 : World) (h0 : RdRow w0 p0_g_Rowsv (List.map (int i64) p0_g_Rows)) :
    Calls Try.prog 49 [(Value.agg #[(int i64 p0_g_Size), p0_g_Rowsv]), (int i64 p1_start)].toArray w0 (retPost fun v w' => ∃ v9, v = (Value.tuple #[v9, (Value.bool r.2)]) ∧ Mem Nob w0 w' [(true, ow 3 v9 (List.map (int i64) r.1))]) := by
 have hM : Mem Nob w0 w0 [(false, rd p0_g_Rowsv (List.map (int i64) p0_g_Rows))] := (Mem.rcons (Mem.nil w0) h0 (by simp))
 refine enter2 Try.func49 rfl rfl rfl fun Q a hQr hQn hQp hS => ?_
 have hS : Sl 12 [(0, (Value.agg #[(int i64 p0_g_Size), p0_g_Rowsv])), (1, (int i64 p1_start))] a := hS
 unfold S_impl_CardinalityOrder at hF
 refine wp_seq_k fun K1 hK1 => ?_
 refine wp_region_lit ?_
 obtain ⟨b3, w, hr, hM⟩ := hM.boxE (ρ := a.eval) (dst := some 2) (ty := _) (pos := _) (af := _) (gd := _) (x := .tmp 0) (T := 28) [(int i64 p0_g_Size), p0_g_Rowsv] (hS.ev rfl) rfl
 refine st_val hS rfl rfl (by decide) hr fun a hS => ?_
 refine st_val hS rfl rfl (by decide) (rv_assign (hS.ev rfl)) fun a hS => ?_
 refine st_val hS rfl rfl (by decide) (rv_assign (hS.ev rfl)) fun a hS => ?_
 refine wpList_nil ?_
 refine hK1 _ _ ?_
 refine wp_seq_k fun K4 hK4 => ?_
 refine wp_region_lit ?_
 refine st_val hS rfl rfl (by decide) (rv_load_agg (hS.ev rfl) ty_ag_28 (hM.get 0 rfl) ty_sz_28) fun a hS => ?_
 refine st_val hS rfl rfl (by decide) (rv_move (hS.ev rfl)) fun a hS => ?_
 refine st_val hS rfl rfl (by decide) (rv_makeFunc hS rfl) fun a hS => ?_
 obtain ⟨r7, hr, hF⟩ := bind_some hF
 refine st_wp hS rfl (wp_call hS rfl rfl (by decide) fn_ok_96 rfl (c_impl_greedyOrder__CardinalityOrderc1 F p0_g_Size p0_g_Rows p1_start p0_g_Size p0_g_Rows p0_g_Rowsv p0_g_Rowsv b3 hr _ (hM.get 1 rfl) (hM.get 1 rfl) (hM.get 0 rfl)) fun v w a hK hS => ?_)
 obtain ⟨v8, rfl, hN⟩ := hK
 have hM := hM.add hN rfl
 refine st_val hS rfl rfl (by decide) (rv_extract (hS.ev rfl) rfl) fun a hS => ?_
 refine st_val hS rfl rfl (by decide) (rv_extract (hS.ev rfl) rfl) fun a hS => ?_
 refine st_val hS rfl rfl (by decide) (rv_assign (hS.ev rfl)) fun a hS => ?_
 refine st_val hS rfl rfl (by decide) (rv_assign (hS.ev rfl)) fun a hS => ?_
 refine wpList_nil ?_
 refine hK4 _ _ ?_
 have hS : Sl 12 [(4, v8), (5, (Value.bool r7.2))] a := hS.sub (sub_cons rfl (sub_cons rfl sub_nil))
 have hM := hM.pick [0] (by decide) rfl
 refine wp_ret ?_
 cases hF
 exact hQr _ _ (r_2 hS rfl rfl rfl ⟨v8, rfl, hM.pick [0] (by decide) rfl⟩)


theorem c_spec_l3Fine (F : Nat) (p0_set : Int) {r : Bool} (hF : S_spec_l3Fine F p0_set = some r) (w0 : World) :
    Calls Try.prog 132 [(int i64 p0_set)].toArray w0 (retPost fun v w' => v = (Value.bool r) ∧ Mem Nob w0 w' []) := by
 have hM : Mem Nob w0 w0 [] := (Mem.nil w0)
 refine enter2 Try.func132 rfl rfl rfl fun Q a hQr hQn hQp hS => ?_
 have hS : Sl 5 [(0, (int i64 p0_set))] a := hS
 unfold S_spec_l3Fine at hF
 refine wp_seq_k fun K1 hK1 => ?_
 refine wp_region_lit ?_
 refine st_val hS rfl rfl (by decide) (rv_assign (hS.ev rfl)) fun a hS => ?_
 refine wpList_nil ?_
 refine hK1 _ _ ?_
 refine wp_seq_k fun K2 hK2 => ?_
 refine wp_region_lit ?_
 refine st_val hS rfl rfl (by decide) (rv_move (hS.ev rfl)) fun a hS => ?_
 obtain ⟨r4, hr, hF⟩ := bind_some hF
 refine st_wp hS rfl (wp_call hS rfl rfl (by decide) fn_ok_74 rfl (c_spec_l1In F p0_set 0 127 hr _) fun v w a hK hS => ?_)
 obtain ⟨rfl, hN⟩ := hK
 have hM := hM.fra hN.fr
 refine st_val hS rfl rfl (by decide) (rv_assign (hS.ev rfl)) fun a hS => ?_
 refine wpList_nil ?_
 refine hK2 _ _ ?_
 refine wp_ret ?_
 cases hF
 exact hQr _ _ (r_1 hS rfl rfl ⟨rfl, hM.pick [] (by decide) rfl⟩)


theorem c_spec_ListOf (F : Nat) (p0_set : Int) {r : (List (Int))} (hF : S_spec_ListOf F p0_set = some r) (w0 : World) :
    Calls Try.prog 125 [(int i64 p0_set)].toArray w0 (retPost fun v w' => Mem Nob w0 w' [(true, ow 3 v (List.map (int i64) r))]) := by
 have hM : Mem Nob w0 w0 [] := (Mem.nil w0)
 refine enter2 Try.func125 rfl rfl rfl fun Q a hQr hQn hQp hS => ?_
 have hS : Sl 24 [(0, (int i64 p0_set))] a := hS
 unfold S_spec_ListOf at hF
 refine wp_seq_k fun K1 hK1 => ?_
 refine wp_region_lit ?_
 refine st_val hS rfl rfl (by decide) (rv_assign (hS.ev rfl)) fun a hS => ?_
 refine wpList_nil ?_
 refine hK1 _ _ ?_
 refine wp_seq_k fun K2 hK2 => ?_
 refine wp_region_lit ?_
 obtain ⟨v4, w, hr, hM⟩ := Mem.litE (f := (int i64)) (dst := some 5) (ty := _) (pos := _) (af := _) (gd := _) (ps := []) ([] : List (Int)) i64_one hM hS Try.underlying22 ty_el_3 rfl rfl rfl rfl
 refine st_val hS rfl rfl (by decide) hr fun a hS => ?_
 refine st_val hS rfl rfl (by decide) (rv_assign (hS.ev rfl)) fun a hS => ?_
 refine wpList_nil ?_
 refine hK2 _ _ ?_
 refine wp_seq_k fun K5 hK5 => ?_
 have hJ1 : ∀ (l47 : List Int) (v46 : Value) (a : Act) (w : World), Sl 24 [(3, v46)] a → Mem Nob w0 w [(true, ow 3 v46 (List.map (int i64) l47))] → S_spec_ListOf_j1 F l47 = some r → K5 a w := by
  intro l47 v46 a w hS hM hF
  unfold S_spec_ListOf_j1 at hF
  refine hK5 _ _ ?_
  refine wp_seq_k fun K48 hK48 => ?_
  refine wp_region_lit ?_
  refine st_val hS rfl rfl (by decide) (rv_move (hS.ev rfl)) fun a hS => ?_
  refine st_val hS rfl rfl (by decide) (rv_assign (hS.ev rfl)) fun a hS => ?_
  refine wpList_nil ?_
  refine hK48 _ _ ?_
  refine wp_ret ?_
  cases hF
  exact hQr _ _ (r_1 hS rfl rfl (hM.pick [0] (by decide) rfl))
 refine wp_seq_k fun K49 hK49 => ?_
 refine wp_region_lit ?_
 refine st_val hS rfl rfl (by decide) (rv_assign (hS.ev rfl)) fun a hS => ?_
 refine wpList_nil ?_
 refine hK49 _ _ ?_
 refine wp_block ?_
 obtain ⟨lb2, hl2, hF2⟩ := bind_some hF
 refine wp_loop_sh (fun s => S_spec_ListOf_l2 F p0_set s.1 s.2) (fun s a w => ∃ (v50 : Value), Sl 24 [(0, (int i64 p0_set)), (3, v50), (4, (int i64 s.2))] a ∧ Mem Nob w0 w [(true, ow 3 v50 (List.map (int i64) s.1))]) hl2 ⟨v4, (hS.sub (sub_cons rfl (sub_cons rfl (sub_cons rfl sub_nil)))), (hM.pick [0] (by decide) rfl)⟩ ?_
 rintro K2 ⟨l51, x52⟩ a w res2 ⟨v50, hS, hM⟩ hF hN2 hX2
 have hF : S_spec_ListOf_l2 F p0_set l51 x52 = some res2 := hF
 have hS : Sl 24 [(0, (int i64 p0_set)), (3, v50), (4, (int i64 x52))] a := hS
 have hM : Mem Nob w0 w [(true, ow 3 v50 (List.map (int i64) l51))] := hM
 unfold S_spec_ListOf_l2 at hF
 refine wp_seq_k fun K71 hK71 => ?_
 refine wp_seq_k fun K76 hK76 => ?_
 have hJ3 : ∀ (p78 : Bool) (a : Act) (w : World), Sl 24 [(0, (int i64 p0_set)), (3, v50), (4, (int i64 x52)), (11, (Value.bool p78))] a → Mem Nob w0 w [(true, ow 3 v50 (List.map (int i64) l51))] → S_spec_ListOf_j3 F p0_set l51 x52 p78 = some res2 → K76 a w := by
  intro p78 a w hS hM hF
  unfold S_spec_ListOf_j3 at hF
  refine hK76 _ _ ?_
  rcases ite_some hF with ⟨hc, hF⟩ | ⟨hc, hF⟩
  ·refine cond_t hS rfl hc ?_
   refine wp_skip ?_
   refine hK71 _ _ ?_
   refine wp_seq_k fun K79 hK79 => ?_
   have hJ4 : ∀ (l84 : List Int) (v83 : Value) (a : Act) (w : World), Sl 24 [(0, (int i64 p0_set)), (3, v83), (4, (int i64 x52))] a → Mem Nob w0 w [(true, ow 3 v83 (List.map (int i64) l84))] → S_spec_ListOf_j4 F x52 l84 = some res2 → K79 a w := by
    intro l84 v83 a w hS hM hF
    unfold S_spec_ListOf_j4 at hF
    refine hK79 _ _ ?_
    refine wp_region_lit ?_
    refine st_val hS rfl rfl (by decide) (rv_move (hS.ev rfl)) fun a hS => ?_
    refine st_val hS rfl rfl (by decide) (rv_add (hS.ev rfl) (hS.ev rfl)) fun a hS => ?_
    refine st_val hS rfl rfl (by decide) (rv_assign (hS.ev rfl)) fun a hS => ?_
    refine wpList_nil ?_
    cases hF
    exact hN2 _ _ _ rfl ⟨v83, (hS.sub (sub_cons rfl (sub_cons rfl (sub_cons rfl sub_nil)))), (hM.pick [0] (by decide) rfl)⟩
   refine wp_block ?_
   refine wp_seq_k fun K85 hK85 => ?_
   refine wp_region_lit ?_
   refine st_val hS rfl rfl (by decide) (rv_move (hS.ev rfl)) fun a hS => ?_
   refine st_val hS rfl rfl (by decide) (rv_move (hS.ev rfl)) fun a hS => ?_
   obtain ⟨_, hx, hF⟩ := bind_some hF
   have hi0 := nnO_some hx
   refine st_val hS rfl rfl (by decide) (rv_shr (hS.ev rfl) (hS.ev rfl) hi0) fun a hS => ?_
   refine st_val hS rfl rfl (by decide) (rv_and (hS.ev rfl) (hS.ev rfl)) fun a hS => ?_
   refine st_val hS rfl rfl (by decide) (rv_eql (hS.ev rfl) (hS.ev rfl)) fun a hS => ?_
   refine wpList_nil ?_
   refine hK85 _ _ ?_
   rcases ite_some hF with ⟨hc, hF⟩ | ⟨hc, hF⟩
   ·refine cond_t hS rfl hc ?_
    refine wp_region_lit ?_
    refine st_val hS rfl rfl (by decide) (rv_move (hS.ev rfl)) fun a hS => ?_
    refine st_val hS rfl rfl (by decide) (rv_move (hS.ev rfl)) fun a hS => ?_
    obtain ⟨v86, w, hr, hM⟩ := Mem.litE (f := (int i64)) (dst := some 21) (ty := _) (pos := _) (af := _) (gd := _) (ps := [(0, .tmp 20)]) ([x52] : List (Int)) i64_one hM hS Try.underlying22 ty_el_3 rfl rfl rfl rfl
    refine st_val hS rfl rfl (by decide) hr fun a hS => ?_
    obtain ⟨_, hx, hF⟩ := bind_some hF
    have hM := hM.pick [1, 0] (by decide) rfl
    obtain ⟨v87, w, hr, hM⟩ := Mem.appE (f := (int i64)) (S := _) (R := [(true, ow 3 v86 (List.map (int i64) ([x52] : List (Int))))]) (ρ := a.eval) (dst := some 22) (ty := _) (pos := _) (af := _) (gd := _) (x := .tmp 19) (y := .tmp 21) i64_one hM Try.underlying22 ty_el_3 rfl (by decide) (hS.ev rfl) (hS.ev rfl) (rd_of_ow (hM.get 1 rfl)) (catO_some hx)
    refine st_val hS rfl rfl (by decide) hr fun a hS => ?_
    refine st_val hS rfl rfl (by decide) (rv_assign (hS.ev rfl)) fun a hS => ?_
    refine wpList_nil ?_
    exact hJ4 (l51 ++ ([x52] : List (Int))) v87 _ _ (hS.sub (sub_cons rfl (sub_cons rfl (sub_cons rfl sub_nil)))) (hM.pick [0] (by decide) rfl) hF
   ·refine cond_f hS rfl hc ?_
    refine wp_skip ?_
    exact hJ4 l51 v50 _ _ (hS.sub (sub_cons rfl (sub_cons rfl (sub_cons rfl sub_nil)))) (hM.pick [0] (by decide) rfl) hF
  ·refine cond_f hS rfl hc ?_
   refine wp_exit ?_
   cases hF
   exact hJ1 l51 v50 _ _ (hS.sub (sub_cons rfl sub_nil)) (hM.pick [0] (by decide) rfl) (by have e := hX2 _ rfl; subst e; exact hF2)
 refine wp_region_lit ?_
 refine st_val hS rfl rfl (by decide) (rv_move (hS.ev rfl)) fun a hS => ?_
 refine st_val hS rfl rfl (by decide) (rv_lss (hS.ev rfl) (hS.ev rfl)) fun a hS => ?_
 refine st_val hS rfl rfl (by decide) (rv_move (hS.ev rfl)) fun a hS => ?_
 rcases ite_some hF with ⟨hc, hF⟩ | ⟨hc, hF⟩
 ·have hS := hS.setb (t := 8) rfl hc
  refine st_val hS rfl rfl (by decide) (rv_move (hS.ev rfl)) fun a hS => ?_
  obtain ⟨r88, hr, hF⟩ := bind_some hF
  refine st_wp hS rfl (wp_call hS rfl rfl (by decide) fn_ok_132 rfl (c_spec_l3Fine F p0_set hr _) fun v w a hK hS => ?_)
  obtain ⟨rfl, hN⟩ := hK
  have hM := hM.fra hN.fr
  refine st_val hS rfl rfl (by decide) (rv_pick_t (hS.ev rfl) (hS.ev rfl)) fun a hS => ?_
  refine wpList_nil ?_
  exact hJ3 r88 _ _ (hS.sub (sub_cons rfl (sub_cons rfl (sub_cons rfl (sub_cons rfl sub_nil))))) (hM.pick [0] (by decide) rfl) hF
 ·have hS := hS.setb (t := 8) rfl hc
  refine st_skip hS rfl rfl (by decide) fun a hS => ?_
  refine st_skip hS rfl rfl (by decide) fun a hS => ?_
  refine st_val hS rfl rfl (by decide) (rv_pick_f (hS.ev rfl) (hS.ev rfl)) fun a hS => ?_
  refine wpList_nil ?_
  exact hJ3 false _ _ (hS.sub (sub_cons rfl (sub_cons rfl (sub_cons rfl (sub_cons rfl sub_nil))))) (hM.pick [0] (by decide) rfl) hF


theorem c_spec_CountSet (F : Nat) (p0_set : Int) {r : Int} (hF : S_spec_CountSet F p0_set = some r) (w0 : World) :
    Calls Try.prog 103 [(int i64 p0_set)].toArray w0 (retPost fun v w' => v = (int i64 r) ∧ Mem Nob w0 w' []) := by
 have hM : Mem Nob w0 w0 [] := (Mem.nil w0)
 refine enter2 Try.func103 rfl rfl rfl fun Q a hQr hQn hQp hS => ?_
 have hS : Sl 6 [(0, (int i64 p0_set))] a := hS
 unfold S_spec_CountSet at hF
 refine wp_seq_k fun K1 hK1 => ?_
 refine wp_region_lit ?_
 refine st_val hS rfl rfl (by decide) (rv_assign (hS.ev rfl)) fun a hS => ?_
 refine wpList_nil ?_
 refine hK1 _ _ ?_
 refine wp_seq_k fun K2 hK2 => ?_
 refine wp_region_lit ?_
 refine st_val hS rfl rfl (by decide) (rv_move (hS.ev rfl)) fun a hS => ?_
 obtain ⟨r5, hr, hF⟩ := bind_some hF
 refine st_wp hS rfl (wp_call hS rfl rfl (by decide) fn_ok_125 rfl (c_spec_ListOf F p0_set hr _) fun v6 w a hK hS => ?_)
 have hN := hK
 have hM := hM.add hN rfl
 refine st_val hS rfl rfl (by decide) (rv_len_rowM Try.underlying22 (hS.ev rfl) (rd_of_ow (hM.get 0 rfl))) fun a hS => ?_
 refine st_val hS rfl rfl (by decide) (rv_assign (hS.ev rfl)) fun a hS => ?_
 refine wpList_nil ?_
 refine hK2 _ _ ?_
 refine wp_ret ?_
 cases hF
 exact hQr _ _ (r_1 hS rfl rfl ⟨rfl, hM.pick [] (by decide) rfl⟩)


theorem c_spec_CardinalityOrder (F : Nat) (p0_g_Size : Int) (p0_g_Rows : List Int) (p1_start : Int) (p0_g_Rowsv : Value) {r : (List (Int)) × Bool} (hF : S_spec_CardinalityOrder F p0_g_Size p0_g_Rows p1_start = some r) (w0 : World) (h0 : RdRow w0 p0_g_Rowsv (List.map (int i64) p0_g_Rows)) :
    Calls Try.prog 50 [(Value.agg #[(int i64 p0_g_Size), p0_g_Rowsv]), (int i64 p1_start)].toArray w0 (retPost fun v w' => ∃ v465, v = (Value.tuple #[v465, (Value.bool r.2)]) ∧ Mem Nob w0 w' [(true, ow 3 v465 (List.map (int i64) r.1))]) := by
 have hM : Mem Nob w0 w0 [(false, rd p0_g_Rowsv (List.map (int i64) p0_g_Rows))] := (Mem.rcons (Mem.nil w0) h0 (by simp))
 refine enter2 Try.func50 rfl rfl rfl fun Q a hQr hQn hQp hS => ?_
 have hS : Sl 70 [(0, (Value.agg #[(int i64 p0_g_Size), p0_g_Rowsv])), (1, (int i64 p1_start))] a := hS
 unfold S_spec_CardinalityOrder at hF
 refine wp_seq_k fun K1 hK1 => ?_
 refine wp_region_lit ?_
 obtain ⟨b3, w, hr, hM⟩ := hM.boxE (ρ := a.eval) (dst := some 2) (ty := _) (pos := _) (af := _) (gd := _) (x := .tmp 0) (T := 28) [(int i64 p0_g_Size), p0_g_Rowsv] (hS.ev rfl) rfl
 refine st_val hS rfl rfl (by decide) hr fun a hS => ?_
 refine st_val hS rfl rfl (by decide) (rv_assign (hS.ev rfl)) fun a hS => ?_
 refine st_val hS rfl rfl (by decide) (rv_assign (hS.ev rfl)) fun a hS => ?_
 refine wpList_nil ?_
 refine hK1 _ _ ?_
 refine wp_seq_k fun K4 hK4 => ?_
 refine wp_seq_k fun K12 hK12 => ?_
 have hJ1 : ∀ (p14 : Bool) (a : Act) (w : World), Sl 70 [(1, (int i64 p1_start)), (2, (fdp b3 0)), (24, (Value.bool p14))] a → Mem Nob w0 w [(true, bx b3 28 [(int i64 p0_g_Size), p0_g_Rowsv]), (false, rd p0_g_Rowsv (List.map (int i64) p0_g_Rows))] → S_spec_CardinalityOrder_j1 F p0_g_Size p0_g_Rows p1_start p14 = some r → K12 a w := by
  intro p14 a w hS hM hF
  unfold S_spec_CardinalityOrder_j1 at hF
  refine hK12 _ _ ?_
  rcases ite_some hF with ⟨hc, hF⟩ | ⟨hc, hF⟩
  ·refine cond_t hS rfl hc ?_
   refine wp_seq_k fun K15 hK15 => ?_
   refine wp_region_lit ?_
   obtain ⟨v17, w, hr, hM⟩ := Mem.litE (f := (int i64)) (dst := some 25) (ty := _) (pos := _) (af := _) (gd := _) (ps := []) ([] : List (Int)) i64_one hM hS Try.underlying22 ty_el_3 rfl rfl rfl rfl
   refine st_val hS rfl rfl (by decide) hr fun a hS => ?_
   refine st_val hS rfl rfl (by decide) (rv_assign (hS.ev rfl)) fun a hS => ?_
   refine st_val hS rfl rfl (by decide) (rv_assign (hS.ev rfl)) fun a hS => ?_
   refine wpList_nil ?_
   refine hK15 _ _ ?_
   refine wp_ret ?_
   cases hF
   exact hQr _ _ (r_2 hS rfl rfl rfl ⟨v17, rfl, hM.pick [0] (by decide) rfl⟩)
  ·refine cond_f hS rfl hc ?_
   refine wp_skip ?_
   refine hK4 _ _ ?_
   refine wp_seq_k fun K18 hK18 => ?_
   refine wp_region_lit ?_
   refine st_val hS rfl rfl (by decide) (rv_move (hS.ev rfl)) fun a hS => ?_
   obtain ⟨v20, w, hr, hM⟩ := Mem.litE (f := (int i64)) (dst := some 27) (ty := _) (pos := _) (af := _) (gd := _) (ps := [(0, .tmp 26)]) ([p1_start] : List (Int)) i64_one hM hS Try.underlying22 ty_el_3 rfl rfl rfl rfl
   refine st_val hS rfl rfl (by decide) hr fun a hS => ?_
   refine st_val hS rfl rfl (by decide) (rv_assign (hS.ev rfl)) fun a hS => ?_
   refine wpList_nil ?_
   refine hK18 _ _ ?_
   refine wp_seq_k fun K21 hK21 => ?_
   refine wp_region_lit ?_
   refine st_val hS rfl rfl (by decide) (rv_move (hS.ev rfl)) fun a hS => ?_
   obtain ⟨_, hx, hF⟩ := bind_some hF
   have hi0 := nnO_some hx
   refine st_val hS rfl rfl (by decide) (rv_shl (hS.ev rfl) (hS.ev rfl) hi0) fun a hS => ?_
   refine st_val hS rfl rfl (by decide) (rv_assign (hS.ev rfl)) fun a hS => ?_
   refine wpList_nil ?_
   refine hK21 _ _ ?_
   refine wp_seq_k fun K22 hK22 => ?_
   have hJ2 : ∀ (l243 : List Int) (v242 : Value) (a : Act) (w : World), Sl 70 [(6, v242)] a → Mem Nob w0 w [(true, ow 3 v242 (List.map (int i64) l243))] → S_spec_CardinalityOrder_j2 F l243 = some r → K22 a w := by
    intro l243 v242 a w hS hM hF
    unfold S_spec_CardinalityOrder_j2 at hF
    refine hK22 _ _ ?_
    refine wp_seq_k fun K244 hK244 => ?_
    refine wp_region_lit ?_
    refine st_val hS rfl rfl (by decide) (rv_move (hS.ev rfl)) fun a hS => ?_
    refine st_val hS rfl rfl (by decide) (rv_assign (hS.ev rfl)) fun a hS => ?_
    refine st_val hS rfl rfl (by decide) (rv_assign (hS.ev rfl)) fun a hS => ?_
    refine wpList_nil ?_
    refine hK244 _ _ ?_
    refine wp_ret ?_
    cases hF
    exact hQr _ _ (r_2 hS rfl rfl rfl ⟨v242, rfl, hM.pick [0] (by decide) rfl⟩)
   refine wp_block ?_
   obtain ⟨lb3, hl3, hF3⟩ := bind_some hF
   refine wp_loop_sh (fun s => S_spec_CardinalityOrder_l3 F p0_g_Size p0_g_Rows s.1 s.2) (fun s a w => ∃ (v245 : Value), Sl 70 [(2, (fdp b3 0)), (6, v245), (7, (int i64 s.2))] a ∧ Mem Nob w0 w [(true, bx b3 28 [(int i64 p0_g_Size), p0_g_Rowsv]), (false, rd p0_g_Rowsv (List.map (int i64) p0_g_Rows)), (true, ow 3 v245 (List.map (int i64) s.1))]) hl3 ⟨v20, (hS.sub (sub_cons rfl (sub_cons rfl (sub_cons rfl sub_nil)))), (hM.pick [1, 2, 0] (by decide) rfl)⟩ ?_
   rintro K3 ⟨l246, x247⟩ a w res3 ⟨v245, hS, hM⟩ hF hN3 hX3
   have hF : S_spec_CardinalityOrder_l3 F p0_g_Size p0_g_Rows l246 x247 = some res3 := hF
   have hS : Sl 70 [(2, (fdp b3 0)), (6, v245), (7, (int i64 x247))] a := hS
   have hM : Mem Nob w0 w [(true, bx b3 28 [(int i64 p0_g_Size), p0_g_Rowsv]), (false, rd p0_g_Rowsv (List.map (int i64) p0_g_Rows)), (true, ow 3 v245 (List.map (int i64) l246))] := hM
   unfold S_spec_CardinalityOrder_l3 at hF
   refine wp_seq_k fun K356 hK356 => ?_
   refine wp_seq_k fun K358 hK358 => ?_
   refine wp_region_lit ?_
   refine st_val hS rfl rfl (by decide) (rv_move (hS.ev rfl)) fun a hS => ?_
   refine st_val hS rfl rfl (by decide) (rv_len_rowM Try.underlying22 (hS.ev rfl) (rd_of_ow (hM.get 2 rfl))) fun a hS => ?_
   refine st_val hS rfl rfl (by decide) (rv_fieldAddr ty_fd_28_0 (hS.ev rfl)) fun a hS => ?_
   refine st_val hS rfl rfl (by decide) (rv_load_bx (hS.ev rfl) ty_ag_3 (hM.get 0 rfl) rfl) fun a hS => ?_
   refine st_val hS rfl rfl (by decide) (rv_lss (hS.ev rfl) (hS.ev rfl)) fun a hS => ?_
   refine wpList_nil ?_
   refine hK358 _ _ ?_
   rcases ite_some hF with ⟨hc, hF⟩ | ⟨hc, hF⟩
   ·refine cond_t hS rfl hc ?_
    refine wp_skip ?_
    refine hK356 _ _ ?_
    refine wp_block ?_
    refine wp_seq_k fun K359 hK359 => ?_
    refine wp_region_lit ?_
    refine st_val hS rfl rfl (by decide) (rv_assign (hS.ev rfl)) fun a hS => ?_
    refine wpList_nil ?_
    refine hK359 _ _ ?_
    refine wp_seq_k fun K360 hK360 => ?_
    refine wp_region_lit ?_
    refine st_val hS rfl rfl (by decide) (rv_assign (hS.ev rfl)) fun a hS => ?_
    refine wpList_nil ?_
    refine hK360 _ _ ?_
    refine wp_seq_k fun K361 hK361 => ?_
    have hJ4 : ∀ (x410 : Int) (a : Act) (w : World), Sl 70 [(2, (fdp b3 0)), (6, v245), (7, (int i64 x247)), (8, (int i64 x410))] a → Mem Nob w0 w [(true, bx b3 28 [(int i64 p0_g_Size), p0_g_Rowsv]), (false, rd p0_g_Rowsv (List.map (int i64) p0_g_Rows)), (true, ow 3 v245 (List.map (int i64) l246))] → S_spec_CardinalityOrder_j4 F l246 x247 x410 = some res3 → K361 a w := by
     intro x410 a w hS hM hF
     unfold S_spec_CardinalityOrder_j4 at hF
     refine hK361 _ _ ?_
     refine wp_seq_k fun K411 hK411 => ?_
     refine wp_region_lit ?_
     refine st_val hS rfl rfl (by decide) (rv_move (hS.ev rfl)) fun a hS => ?_
     refine st_val hS rfl rfl (by decide) (rv_move (hS.ev rfl)) fun a hS => ?_
     obtain ⟨v414, w, hr, hM⟩ := Mem.litE (f := (int i64)) (dst := some 63) (ty := _) (pos := _) (af := _) (gd := _) (ps := [(0, .tmp 62)]) ([x410] : List (Int)) i64_one hM hS Try.underlying22 ty_el_3 rfl rfl rfl rfl
     refine st_val hS rfl rfl (by decide) hr fun a hS => ?_
     obtain ⟨_, hx, hF⟩ := bind_some hF
     have hM := hM.pick [3, 0, 1, 2] (by decide) rfl
     obtain ⟨v415, w, hr, hM⟩ := Mem.appE (f := (int i64)) (S := _) (R := [(true, ow 3 v414 (List.map (int i64) ([x410] : List (Int)))), (true, bx b3 28 [(int i64 p0_g_Size), p0_g_Rowsv]), (false, rd p0_g_Rowsv (List.map (int i64) p0_g_Rows))]) (ρ := a.eval) (dst := some 64) (ty := _) (pos := _) (af := _) (gd := _) (x := .tmp 61) (y := .tmp 63) i64_one hM Try.underlying22 ty_el_3 rfl (by decide) (hS.ev rfl) (hS.ev rfl) (rd_of_ow (hM.get 1 rfl)) (catO_some hx)
     refine st_val hS rfl rfl (by decide) hr fun a hS => ?_
     refine st_val hS rfl rfl (by decide) (rv_assign (hS.ev rfl)) fun a hS => ?_
     refine wpList_nil ?_
     refine hK411 _ _ ?_
     refine wp_region_lit ?_
     refine st_val hS rfl rfl (by decide) (rv_move (hS.ev rfl)) fun a hS => ?_
     refine st_val hS rfl rfl (by decide) (rv_move (hS.ev rfl)) fun a hS => ?_
     obtain ⟨_, hx, hF⟩ := bind_some hF
     have hi0 := nnO_some hx
     refine st_val hS rfl rfl (by decide) (rv_shl (hS.ev rfl) (hS.ev rfl) hi0) fun a hS => ?_
     refine st_val hS rfl rfl (by decide) (rv_add (hS.ev rfl) (hS.ev rfl)) fun a hS => ?_
     refine st_val hS rfl rfl (by decide) (rv_assign (hS.ev rfl)) fun a hS => ?_
     refine wpList_nil ?_
     cases hF
     exact hN3 _ _ _ rfl ⟨v415, (hS.sub (sub_cons rfl (sub_cons rfl (sub_cons rfl sub_nil)))), (hM.pick [2, 3, 0] (by decide) rfl)⟩
    refine wp_seq_k fun K416 hK416 => ?_
    refine wp_region_lit ?_
    refine st_val hS rfl rfl (by decide) (rv_assign (hS.ev rfl)) fun a hS => ?_
    refine wpList_nil ?_
    refine hK416 _ _ ?_
    refine wp_block ?_
    obtain ⟨lb5, hl5, hF5⟩ := bind_some hF
    refine wp_loop_sh (fun s => S_spec_CardinalityOrder_l5 F p0_g_Size p0_g_Rows x247 s.1 s.2.1 s.2.2) (fun s a w => Sl 70 [(2, (fdp b3 0)), (6, v245), (7, (int i64 x247)), (8, (int i64 s.1)), (9, (int i64 s.2.1)), (10, (int i64 s.2.2))] a ∧ Mem Nob w0 w [(true, bx b3 28 [(int i64 p0_g_Size), p0_g_Rowsv]), (false, rd p0_g_Rowsv (List.map (int i64) p0_g_Rows)), (true, ow 3 v245 (List.map (int i64) l246))]) hl5 ⟨(hS.sub (sub_cons rfl (sub_cons rfl (sub_cons rfl (sub_cons rfl (sub_cons rfl (sub_cons rfl sub_nil))))))), (hM.pick [0, 1, 2] (by decide) rfl)⟩ ?_
    rintro K5 ⟨x417, x418, x419⟩ a w res5 ⟨hS, hM⟩ hF hN5 hX5
    have hF : S_spec_CardinalityOrder_l5 F p0_g_Size p0_g_Rows x247 x417 x418 x419 = some res5 := hF
    have hS : Sl 70 [(2, (fdp b3 0)), (6, v245), (7, (int i64 x247)), (8, (int i64 x417)), (9, (int i64 x418)), (10, (int i64 x419))] a := hS
    have hM : Mem Nob w0 w [(true, bx b3 28 [(int i64 p0_g_Size), p0_g_Rowsv]), (false, rd p0_g_Rowsv (List.map (int i64) p0_g_Rows)), (true, ow 3 v245 (List.map (int i64) l246))] := hM
    unfold S_spec_CardinalityOrder_l5 at hF
    refine wp_seq_k fun K442 hK442 => ?_
    refine wp_seq_k fun K444 hK444 => ?_
    refine wp_region_lit ?_
    refine st_val hS rfl rfl (by decide) (rv_move (hS.ev rfl)) fun a hS => ?_
    refine st_val hS rfl rfl (by decide) (rv_fieldAddr ty_fd_28_0 (hS.ev rfl)) fun a hS => ?_
    refine st_val hS rfl rfl (by decide) (rv_load_bx (hS.ev rfl) ty_ag_3 (hM.get 0 rfl) rfl) fun a hS => ?_
    refine st_val hS rfl rfl (by decide) (rv_lss (hS.ev rfl) (hS.ev rfl)) fun a hS => ?_
    refine wpList_nil ?_
    refine hK444 _ _ ?_
    rcases ite_some hF with ⟨hc, hF⟩ | ⟨hc, hF⟩
    ·refine cond_t hS rfl hc ?_
     refine wp_skip ?_
     refine hK442 _ _ ?_
     refine wp_seq_k fun K445 hK445 => ?_
     have hJ6 : ∀ (x454 : Int) (x455 : Int) (a : Act) (w : World), Sl 70 [(2, (fdp b3 0)), (6, v245), (7, (int i64 x247)), (8, (int i64 x454)), (9, (int i64 x455)), (10, (int i64 x419))] a → Mem Nob w0 w [(true, bx b3 28 [(int i64 p0_g_Size), p0_g_Rowsv]), (false, rd p0_g_Rowsv (List.map (int i64) p0_g_Rows)), (true, ow 3 v245 (List.map (int i64) l246))] → S_spec_CardinalityOrder_j6 F x419 x454 x455 = some res5 → K445 a w := by
      intro x454 x455 a w hS hM hF
      unfold S_spec_CardinalityOrder_j6 at hF
      refine hK445 _ _ ?_
      refine wp_region_lit ?_
      refine st_val hS rfl rfl (by decide) (rv_move (hS.ev rfl)) fun a hS => ?_
      refine st_val hS rfl rfl (by decide) (rv_add (hS.ev rfl) (hS.ev rfl)) fun a hS => ?_
      refine st_val hS rfl rfl (by decide) (rv_assign (hS.ev rfl)) fun a hS => ?_
      refine wpList_nil ?_
      cases hF
      exact hN5 _ _ _ rfl ⟨(hS.sub (sub_cons rfl (sub_cons rfl (sub_cons rfl (sub_cons rfl (sub_cons rfl (sub_cons rfl sub_nil))))))), (hM.pick [0, 1, 2] (by decide) rfl)⟩
     refine wp_block ?_
     refine wp_seq_k fun K456 hK456 => ?_
     refine wp_region_lit ?_
     refine st_val hS rfl rfl (by decide) (rv_fieldAddr ty_fd_28_1 (hS.ev rfl)) fun a hS => ?_
     refine st_val hS rfl rfl (by decide) (rv_load_bx (hS.ev rfl) ty_ag_22 (hM.get 0 rfl) rfl) fun a hS => ?_
     refine st_val hS rfl rfl (by decide) (rv_move (hS.ev rfl)) fun a hS => ?_
     obtain ⟨x459, hx, hF⟩ := bind_some hF
     obtain ⟨hi0, hi1, hex459⟩ := idxL_some hx
     refine st_val hS rfl rfl (by decide) (rv_indexAddr Try.underlying22 ty_el_3 (hS.ev rfl) (hS.ev rfl) (hM.get 1 rfl) hi0 (map_len hi1)) fun a hS => ?_
     refine st_val hS rfl rfl (by decide) (rv_load_el (hS.ev rfl) ty_ag_3 (hM.get 1 rfl) (mget hex459)) fun a hS => ?_
     refine st_val hS rfl rfl (by decide) (rv_move (hS.ev rfl)) fun a hS => ?_
     refine st_val hS rfl rfl (by decide) (rv_and (hS.ev rfl) (hS.ev rfl)) fun a hS => ?_
     obtain ⟨r460, hr, hF⟩ := bind_some hF
     refine st_wp hS rfl (wp_call hS rfl rfl (by decide) fn_ok_103 rfl (c_spec_CountSet F (bAnd x459 x247) hr _) fun v w a hK hS => ?_)
     obtain ⟨rfl, hN⟩ := hK
     have hM := hM.fra hN.fr
     refine st_val hS rfl rfl (by decide) (rv_assign (hS.ev rfl)) fun a hS => ?_
     refine wpList_nil ?_
     refine hK456 _ _ ?_
     have hS : Sl 70 [(2, (fdp b3 0)), (6, v245), (7, (int i64 x247)), (8, (int i64 x417)), (9, (int i64 x418)), (10, (int i64 x419)), (11, (int i64 r460))] a := hS.sub (sub_cons rfl (sub_cons rfl (sub_cons rfl (sub_cons rfl (sub_cons rfl (sub_cons rfl (sub_cons rfl sub_nil)))))))
     refine wp_seq_k fun K461 hK461 => ?_
     have hJ7 : ∀ (p462 : Bool) (a : Act) (w : World), Sl 70 [(2, (fdp b3 0)), (6, v245), (7, (int i64 x247)), (8, (int i64 x417)), (9, (int i64 x418)), (10, (int i64 x419)), (11, (int i64 r460)), (58, (Value.bool p462))] a → Mem Nob w0 w [(true, bx b3 28 [(int i64 p0_g_Size), p0_g_Rowsv]), (false, rd p0_g_Rowsv (List.map (int i64) p0_g_Rows)), (true, ow 3 v245 (List.map (int i64) l246))] → S_spec_CardinalityOrder_j7 F x417 x418 x419 r460 p462 = some res5 → K461 a w := by
      intro p462 a w hS hM hF
      unfold S_spec_CardinalityOrder_j7 at hF
      refine hK461 _ _ ?_
      rcases ite_some hF with ⟨hc, hF⟩ | ⟨hc, hF⟩
      ·refine cond_t hS rfl hc ?_
       refine wp_seq_k fun K463 hK463 => ?_
       refine wp_region_lit ?_
       refine st_val hS rfl rfl (by decide) (rv_move (hS.ev rfl)) fun a hS => ?_
       refine st_val hS rfl rfl (by decide) (rv_assign (hS.ev rfl)) fun a hS => ?_
       refine wpList_nil ?_
       refine hK463 _ _ ?_
       refine wp_region_lit ?_
       refine st_val hS rfl rfl (by decide) (rv_move (hS.ev rfl)) fun a hS => ?_
       refine st_val hS rfl rfl (by decide) (rv_assign (hS.ev rfl)) fun a hS => ?_
       refine wpList_nil ?_
       exact hJ6 x419 r460 _ _ (hS.sub (sub_cons rfl (sub_cons rfl (sub_cons rfl (sub_cons rfl (sub_cons rfl (sub_cons rfl sub_nil))))))) (hM.pick [0, 1, 2] (by decide) rfl) hF
      ·refine cond_f hS rfl hc ?_
       refine wp_skip ?_
       exact hJ6 x417 x418 _ _ (hS.sub (sub_cons rfl (sub_cons rfl (sub_cons rfl (sub_cons rfl (sub_cons rfl (sub_cons rfl sub_nil))))))) (hM.pick [0, 1, 2] (by decide) rfl) hF
     refine wp_region_lit ?_
     refine st_val hS rfl rfl (by decide) (rv_move (hS.ev rfl)) fun a hS => ?_
     refine st_val hS rfl rfl (by decide) (rv_move (hS.ev rfl)) fun a hS => ?_
     obtain ⟨_, hx, hF⟩ := bind_some hF
     have hi0 := nnO_some hx
     refine st_val hS rfl rfl (by decide) (rv_shr (hS.ev rfl) (hS.ev rfl) hi0) fun a hS => ?_
     refine st_val hS rfl rfl (by decide) (rv_and (hS.ev rfl) (hS.ev rfl)) fun a hS => ?_
     refine st_val hS rfl rfl (by decide) (rv_eql (hS.ev rfl) (hS.ev rfl)) fun a hS => ?_
     refine st_val hS rfl rfl (by decide) (rv_move (hS.ev rfl)) fun a hS => ?_
     rcases ite_some hF with ⟨hc, hF⟩ | ⟨hc, hF⟩
     ·have hS := hS.setb (t := 54) rfl hc
      refine st_val hS rfl rfl (by decide) (rv_move (hS.ev rfl)) fun a hS => ?_
      refine st_val hS rfl rfl (by decide) (rv_move (hS.ev rfl)) fun a hS => ?_
      refine st_val hS rfl rfl (by decide) (rv_gtr (hS.ev rfl) (hS.ev rfl)) fun a hS => ?_
      refine st_val hS rfl rfl (by decide) (rv_pick_t (hS.ev rfl) (hS.ev rfl)) fun a hS => ?_
      refine wpList_nil ?_
      exact hJ7 (decide (x418 < r460)) _ _ (hS.sub (sub_cons rfl (sub_cons rfl (sub_cons rfl (sub_cons rfl (sub_cons rfl (sub_cons rfl (sub_cons rfl (sub_cons rfl sub_nil))))))))) (hM.pick [0, 1, 2] (by decide) rfl) hF
     ·have hS := hS.setb (t := 54) rfl hc
      refine st_skip hS rfl rfl (by decide) fun a hS => ?_
      refine st_skip hS rfl rfl (by decide) fun a hS => ?_
      refine st_skip hS rfl rfl (by decide) fun a hS => ?_
      refine st_val hS rfl rfl (by decide) (rv_pick_f (hS.ev rfl) (hS.ev rfl)) fun a hS => ?_
      refine wpList_nil ?_
      exact hJ7 false _ _ (hS.sub (sub_cons rfl (sub_cons rfl (sub_cons rfl (sub_cons rfl (sub_cons rfl (sub_cons rfl (sub_cons rfl (sub_cons rfl sub_nil))))))))) (hM.pick [0, 1, 2] (by decide) rfl) hF
    ·refine cond_f hS rfl hc ?_
     refine wp_exit ?_
     cases hF
     exact hJ4 x417 _ _ (hS.sub (sub_cons rfl (sub_cons rfl (sub_cons rfl (sub_cons rfl sub_nil))))) (hM.pick [0, 1, 2] (by decide) rfl) (by have e := hX5 _ rfl; subst e; exact hF5)
   ·refine cond_f hS rfl hc ?_
    refine wp_exit ?_
    cases hF
    exact hJ2 l246 v245 _ _ (hS.sub (sub_cons rfl sub_nil)) (hM.pick [2] (by decide) rfl) (by have e := hX3 _ rfl; subst e; exact hF3)
 refine wp_region_lit ?_
 refine st_val hS rfl rfl (by decide) (rv_load_agg (hS.ev rfl) ty_ag_28 (hM.get 0 rfl) ty_sz_28) fun a hS => ?_
 obtain ⟨r464, hr, hF⟩ := bind_some hF
 refine st_wp hS rfl (wp_call hS rfl rfl (by decide) fn_ok_73 rfl (c_spec_IsGraph F p0_g_Size p0_g_Rows p0_g_Rowsv hr _ (hM.get 1 rfl)) fun v w a hK hS => ?_)
 obtain ⟨rfl, hN⟩ := hK
 have hM := hM.fra hN.fr
 refine st_val hS rfl rfl (by decide) (rv_not (hS.ev rfl)) fun a hS => ?_
 refine st_val hS rfl rfl (by decide) (rv_move (hS.ev rfl)) fun a hS => ?_
 rcases ite_some hF with ⟨hc, hF⟩ | ⟨hc, hF⟩
 ·have hS := hS.setb (t := 15) rfl hc
  refine st_skip hS rfl rfl (by decide) fun a hS => ?_
  refine st_skip hS rfl rfl (by decide) fun a hS => ?_
  refine st_val hS rfl rfl (by decide) (rv_pick_t (hS.ev rfl) (hS.ev rfl)) fun a hS => ?_
  refine st_val hS rfl rfl (by decide) (rv_move (hS.ev rfl)) fun a hS => ?_
  refine st_skip hS rfl rfl (by decide) fun a hS => ?_
  refine st_skip hS rfl rfl (by decide) fun a hS => ?_
  refine st_skip hS rfl rfl (by decide) fun a hS => ?_
  refine st_skip hS rfl rfl (by decide) fun a hS => ?_
  refine st_val hS rfl rfl (by decide) (rv_pick_t (hS.ev rfl) (hS.ev rfl)) fun a hS => ?_
  refine wpList_nil ?_
  exact hJ1 true _ _ (hS.sub (sub_cons rfl (sub_cons rfl (sub_cons rfl sub_nil)))) (hM.pick [0, 1] (by decide) rfl) hF
 ·have hS := hS.setb (t := 15) rfl hc
  refine st_val hS rfl rfl (by decide) (rv_move (hS.ev rfl)) fun a hS => ?_
  refine st_val hS rfl rfl (by decide) (rv_lss (hS.ev rfl) (hS.ev rfl)) fun a hS => ?_
  refine st_val hS rfl rfl (by decide) (rv_pick_f (hS.ev rfl) (hS.ev rfl)) fun a hS => ?_
  refine st_val hS rfl rfl (by decide) (rv_move (hS.ev rfl)) fun a hS => ?_
  rcases ite_some hF with ⟨hc, hF⟩ | ⟨hc, hF⟩
  ·have hS := hS.setb (t := 19) rfl hc
   refine st_skip hS rfl rfl (by decide) fun a hS => ?_
   refine st_skip hS rfl rfl (by decide) fun a hS => ?_
   refine st_skip hS rfl rfl (by decide) fun a hS => ?_
   refine st_skip hS rfl rfl (by decide) fun a hS => ?_
   refine st_val hS rfl rfl (by decide) (rv_pick_t (hS.ev rfl) (hS.ev rfl)) fun a hS => ?_
   refine wpList_nil ?_
   exact hJ1 true _ _ (hS.sub (sub_cons rfl (sub_cons rfl (sub_cons rfl sub_nil)))) (hM.pick [0, 1] (by decide) rfl) hF
  ·have hS := hS.setb (t := 19) rfl hc
   refine st_val hS rfl rfl (by decide) (rv_move (hS.ev rfl)) fun a hS => ?_
   refine st_val hS rfl rfl (by decide) (rv_fieldAddr ty_fd_28_0 (hS.ev rfl)) fun a hS => ?_
   refine st_val hS rfl rfl (by decide) (rv_load_bx (hS.ev rfl) ty_ag_3 (hM.get 0 rfl) rfl) fun a hS => ?_
   refine st_val hS rfl rfl (by decide) (rv_geq (hS.ev rfl) (hS.ev rfl)) fun a hS => ?_
   refine st_val hS rfl rfl (by decide) (rv_pick_f (hS.ev rfl) (hS.ev rfl)) fun a hS => ?_
   refine wpList_nil ?_
   exact hJ1 (decide (p0_g_Size ≤ p1_start)) _ _ (hS.sub (sub_cons rfl (sub_cons rfl (sub_cons rfl sub_nil)))) (hM.pick [0, 1] (by decide) rfl) hF


theorem c_impl_BreadthOrder (F : Nat) (p0_g_Size : Int) (p0_g_Rows : List Int) (p1_start : Int) (p0_g_Rowsv : Value) {r : (List (Int)) × Bool} (hF : S_impl_BreadthOrder F p0_g_Size p0_g_Rows p1_start = some r) (w0 : World) (h0 : RdRow w0 p0_g_Rowsv (List.map (int i64) p0_g_Rows)) :
    Calls Try.prog 51 [(Value.agg #[(int i64 p0_g_Size), p0_g_Rowsv]), (int i64 p1_start)].toArray w0 (retPost fun v w' => ∃ v488, v = (Value.tuple #[v488, (Value.bool r.2)]) ∧ Mem Nob w0 w' [(true, ow 3 v488 (List.map (int i64) r.1))]) := by
 have hM : Mem Nob w0 w0 [(false, rd p0_g_Rowsv (List.map (int i64) p0_g_Rows))] := (Mem.rcons (Mem.nil w0) h0 (by simp))
 refine enter2 Try.func51 rfl rfl rfl fun Q a hQr hQn hQp hS => ?_
 have hS : Sl 47 [(0, (Value.agg #[(int i64 p0_g_Size), p0_g_Rowsv])), (1, (int i64 p1_start))] a := hS
 unfold S_impl_BreadthOrder at hF
 refine wp_seq_k fun K1 hK1 => ?_
 refine wp_region_lit ?_
 obtain ⟨b3, w, hr, hM⟩ := hM.boxE (ρ := a.eval) (dst := some 2) (ty := _) (pos := _) (af := _) (gd := _) (x := .tmp 0) (T := 28) [(int i64 p0_g_Size), p0_g_Rowsv] (hS.ev rfl) rfl
 refine st_val hS rfl rfl (by decide) hr fun a hS => ?_
 refine st_val hS rfl rfl (by decide) (rv_assign (hS.ev rfl)) fun a hS => ?_
 refine st_val hS rfl rfl (by decide) (rv_assign (hS.ev rfl)) fun a hS => ?_
 refine wpList_nil ?_
 refine hK1 _ _ ?_
 refine wp_seq_k fun K4 hK4 => ?_
 refine wp_seq_k fun K11 hK11 => ?_
 refine wp_region_lit ?_
 refine st_val hS rfl rfl (by decide) (rv_load_agg (hS.ev rfl) ty_ag_28 (hM.get 0 rfl) ty_sz_28) fun a hS => ?_
 refine st_val hS rfl rfl (by decide) (rv_move (hS.ev rfl)) fun a hS => ?_
 obtain ⟨v14, w, hr, hM⟩ := Mem.litE (f := (int i64)) (dst := some 12) (ty := _) (pos := _) (af := _) (gd := _) (ps := [(0, .tmp 11)]) ([p1_start] : List (Int)) i64_one hM hS Try.underlying22 ty_el_3 rfl rfl rfl rfl
 refine st_val hS rfl rfl (by decide) hr fun a hS => ?_
 obtain ⟨r15, hr, hF⟩ := bind_some hF
 refine st_wp hS rfl (wp_call hS rfl rfl (by decide) fn_ok_104 rfl (c_impl_isVertex F p0_g_Size p0_g_Rows ([p1_start] : List (Int)) p0_g_Rowsv v14 hr _ (hM.get 2 rfl) (rd_of_ow (hM.get 0 rfl))) fun v w a hK hS => ?_)
 obtain ⟨rfl, hN⟩ := hK
 have hM := hM.fra hN.fr
 refine st_val hS rfl rfl (by decide) (rv_not (hS.ev rfl)) fun a hS => ?_
 refine wpList_nil ?_
 refine hK11 _ _ ?_
 rcases ite_some hF with ⟨hc, hF⟩ | ⟨hc, hF⟩
 ·refine cond_t hS rfl hc ?_
  refine wp_seq_k fun K16 hK16 => ?_
  refine wp_region_lit ?_
  refine st_val hS rfl rfl (by decide) (rv_assign (hS.ev rfl)) fun a hS => ?_
  refine st_val hS rfl rfl (by decide) (rv_assign (hS.ev rfl)) fun a hS => ?_
  refine wpList_nil ?_
  refine hK16 _ _ ?_
  have hS : Sl 47 [(4, (Value.slice none 0 0)), (5, (Value.bool false))] a := hS.sub (sub_cons rfl (sub_cons rfl sub_nil))
  have hM := hM.pick [] (by decide) rfl
  refine wp_ret ?_
  cases hF
  have hM := hM.addNil 3
  exact hQr _ _ (r_2 hS rfl rfl rfl ⟨(Value.slice none 0 0), rfl, hM.pick [0] (by decide) rfl⟩)
 ·refine cond_f hS rfl hc ?_
  refine wp_skip ?_
  refine hK4 _ _ ?_
  have hS : Sl 47 [(1, (int i64 p1_start)), (2, (fdp b3 0))] a := hS.sub (sub_cons rfl (sub_cons rfl sub_nil))
  have hM := hM.pick [1, 2] (by decide) rfl
  refine wp_seq_k fun K17 hK17 => ?_
  refine wp_region_lit ?_
  refine st_val hS rfl rfl (by decide) (rv_move (hS.ev rfl)) fun a hS => ?_
  obtain ⟨v19, w, hr, hM⟩ := Mem.litE (f := (int i64)) (dst := some 16) (ty := _) (pos := _) (af := _) (gd := _) (ps := [(0, .tmp 15)]) ([p1_start] : List (Int)) i64_one hM hS Try.underlying22 ty_el_3 rfl rfl rfl rfl
  refine st_val hS rfl rfl (by decide) hr fun a hS => ?_
  refine st_val hS rfl rfl (by decide) (rv_assign (hS.ev rfl)) fun a hS => ?_
  refine wpList_nil ?_
  refine hK17 _ _ ?_
  refine wp_seq_k fun K20 hK20 => ?_
  have hJ1 : ∀ (l254 : List Int) (v253 : Value) (a : Act) (w : World), Sl 47 [(6, v253)] a → Mem Nob w0 w [(true, ow 3 v253 (List.map (int i64) l254))] → S_impl_BreadthOrder_j1 F l254 = some r → K20 a w := by
   intro l254 v253 a w hS hM hF
   unfold S_impl_BreadthOrder_j1 at hF
   refine hK20 _ _ ?_
   refine wp_seq_k fun K255 hK255 => ?_
   refine wp_region_lit ?_
   refine st_val hS rfl rfl (by decide) (rv_move (hS.ev rfl)) fun a hS => ?_
   refine st_val hS rfl rfl (by decide) (rv_assign (hS.ev rfl)) fun a hS => ?_
   refine st_val hS rfl rfl (by decide) (rv_assign (hS.ev rfl)) fun a hS => ?_
   refine wpList_nil ?_
   refine hK255 _ _ ?_
   refine wp_ret ?_
   cases hF
   exact hQr _ _ (r_2 hS rfl rfl rfl ⟨v253, rfl, hM.pick [0] (by decide) rfl⟩)
  refine wp_seq_k fun K256 hK256 => ?_
  refine wp_region_lit ?_
  refine st_val hS rfl rfl (by decide) (rv_assign (hS.ev rfl)) fun a hS => ?_
  refine wpList_nil ?_
  refine hK256 _ _ ?_
  refine wp_block ?_
  obtain ⟨lb2, hl2, hF2⟩ := bind_some hF
  refine wp_loop_sh (fun s => S_impl_BreadthOrder_l2 F p0_g_Rows s.1 s.2) (fun s a w => ∃ (v257 : Value), Sl 47 [(2, (fdp b3 0)), (6, v257), (7, (int i64 s.2))] a ∧ Mem Nob w0 w [(true, bx b3 28 [(int i64 p0_g_Size), p0_g_Rowsv]), (false, rd p0_g_Rowsv (List.map (int i64) p0_g_Rows)), (true, ow 3 v257 (List.map (int i64) s.1))]) hl2 ⟨v19, (hS.sub (sub_cons rfl (sub_cons rfl (sub_cons rfl sub_nil)))), (hM.pick [1, 2, 0] (by decide) rfl)⟩ ?_
  rintro K2 ⟨l258, x259⟩ a w res2 ⟨v257, hS, hM⟩ hF hN2 hX2
  have hF : S_impl_BreadthOrder_l2 F p0_g_Rows l258 x259 = some res2 := hF
  have hS : Sl 47 [(2, (fdp b3 0)), (6, v257), (7, (int i64 x259))] a := hS
  have hM : Mem Nob w0 w [(true, bx b3 28 [(int i64 p0_g_Size), p0_g_Rowsv]), (false, rd p0_g_Rowsv (List.map (int i64) p0_g_Rows)), (true, ow 3 v257 (List.map (int i64) l258))] := hM
  unfold S_impl_BreadthOrder_l2 at hF
  refine wp_seq_k fun K374 hK374 => ?_
  refine wp_seq_k fun K376 hK376 => ?_
  refine wp_region_lit ?_
  refine st_val hS rfl rfl (by decide) (rv_move (hS.ev rfl)) fun a hS => ?_
  refine st_val hS rfl rfl (by decide) (rv_move (hS.ev rfl)) fun a hS => ?_
  refine st_val hS rfl rfl (by decide) (rv_len_rowM Try.underlying22 (hS.ev rfl) (rd_of_ow (hM.get 2 rfl))) fun a hS => ?_
  refine st_val hS rfl rfl (by decide) (rv_lss (hS.ev rfl) (hS.ev rfl)) fun a hS => ?_
  refine wpList_nil ?_
  refine hK376 _ _ ?_
  rcases ite_some hF with ⟨hc, hF⟩ | ⟨hc, hF⟩
  ·refine cond_t hS rfl hc ?_
   refine wp_skip ?_
   refine hK374 _ _ ?_
   refine wp_seq_k fun K377 hK377 => ?_
   have hJ3 : ∀ (l433 : List Int) (v432 : Value) (a : Act) (w : World), Sl 47 [(2, (fdp b3 0)), (6, v432), (7, (int i64 x259))] a → Mem Nob w0 w [(true, bx b3 28 [(int i64 p0_g_Size), p0_g_Rowsv]), (false, rd p0_g_Rowsv (List.map (int i64) p0_g_Rows)), (true, ow 3 v432 (List.map (int i64) l433))] → S_impl_BreadthOrder_j3 F x259 l433 = some res2 → K377 a w := by
    intro l433 v432 a w hS hM hF
    unfold S_impl_BreadthOrder_j3 at hF
    refine hK377 _ _ ?_
    refine wp_region_lit ?_
    refine st_val hS rfl rfl (by decide) (rv_move (hS.ev rfl)) fun a hS => ?_
    refine st_val hS rfl rfl (by decide) (rv_add (hS.ev rfl) (hS.ev rfl)) fun a hS => ?_
    refine st_val hS rfl rfl (by decide) (rv_assign (hS.ev rfl)) fun a hS => ?_
    refine wpList_nil ?_
    cases hF
    exact hN2 _ _ _ rfl ⟨v432, (hS.sub (sub_cons rfl (sub_cons rfl (sub_cons rfl sub_nil)))), (hM.pick [0, 1, 2] (by decide) rfl)⟩
   refine wp_block ?_
   refine wp_seq_k fun K434 hK434 => ?_
   refine an_startB 11 Nob ty_mixed (by kernel_rfl) fun w hf => ?_
   have hM := hM.fra hf
   have hB := hM
   have hM := hB.reg0
   refine tkB hS 0 1 (by kernel_rfl) rfl rfl rfl hQp rfl (fun w' hC' => (rv_fieldAddr ty_fd_28_1 (hS.ev rfl))) hM.fr fun a hS => ?_
   refine tkB hS 1 3 (by kernel_rfl) rfl rfl rfl hQp rfl (fun w' hC' => (rv_load_bx (hS.ev rfl) ty_ag_22 ((hB.fra hC').get 0 rfl) rfl)) hM.fr fun a hS => ?_
   refine tkB hS 2 7 (by kernel_rfl) rfl rfl rfl hQp rfl (fun w' hC' => (rv_move (hS.ev rfl))) hM.fr fun a hS => ?_
   refine tkB hS 3 15 (by kernel_rfl) rfl rfl rfl hQp rfl (fun w' hC' => (rv_move (hS.ev rfl))) hM.fr fun a hS => ?_
   obtain ⟨x439, hx, hF⟩ := bind_some hF
   obtain ⟨hi0, hi1, hex439⟩ := idxL_some hx
   refine tkB hS 4 31 (by kernel_rfl) rfl rfl rfl hQp rfl (fun w' hC' => (rv_indexAddr Try.underlying22 ty_el_3 (hS.ev rfl) (hS.ev rfl) (rd_of_ow (hM.get 2 rfl)) hi0 (map_len hi1))) hM.fr fun a hS => ?_
   refine tkB hS 5 63 (by kernel_rfl) rfl rfl rfl hQp rfl (fun w' hC' => (rv_load_el (hS.ev rfl) ty_ag_3 (rd_of_ow ((hB.fra hC').get 2 rfl)) (mget hex439))) hM.fr fun a hS => ?_
   obtain ⟨x440, hx, hF⟩ := bind_some hF
   obtain ⟨hi0, hi1, hex440⟩ := idxL_some hx
   refine tkB hS 6 127 (by kernel_rfl) rfl rfl rfl hQp rfl (fun w' hC' => (rv_indexAddr Try.underlying22 ty_el_3 (hS.ev rfl) (hS.ev rfl) (hM.get 1 rfl) hi0 (map_len hi1))) hM.fr fun a hS => ?_
   refine tkB hS 7 255 (by kernel_rfl) rfl rfl rfl hQp rfl (fun w' hC' => (rv_load_el (hS.ev rfl) ty_ag_3 ((hB.fra hC').get 1 rfl) (mget hex440))) hM.fr fun a hS => ?_
   refine tkB hS 10 1279 (by kernel_rfl) rfl rfl rfl hQp rfl (fun w' hC' => (rv_move (hS.ev rfl))) hM.fr fun a hS => ?_
   obtain ⟨r441, hr, hF⟩ := bind_some hF
   refine an_oneB hS (i := 8) 1535 (by kernel_rfl) rfl (by kernel_rfl) rfl ?_
   refine wp_call hS rfl rfl (by decide) fn_ok_105 rfl (c_impl_ListOf F x440 hr _) fun v442 w a hK hS => ?_
   have hN := hK
   have hM := hM.add hN rfl
   refine ⟨hM.fr, ?_⟩
   refine tkB hS 9 2047 (by kernel_rfl) rfl rfl rfl hQp rfl (fun w' hC' => (rv_len_rowM Try.underlying22 (hS.ev rfl) (rd_of_ow (hM.get 0 rfl)))) hM.fr fun a hS => ?_
   refine an_done (by kernel_rfl) ?_
   have hN := hM.pick [0] (by decide) rfl
   have hM := Mem.callo0 hB hN rfl
   refine hK434 _ _ ?_
   have hS : Sl 47 [(2, (fdp b3 0)), (6, v257), (7, (int i64 x259)), (31, v442), (32, (int i64 (r441.length : Int))), (33, (int i64 0))] a := hS.sub (sub_cons rfl (sub_cons rfl (sub_cons rfl (sub_cons rfl (sub_cons rfl (sub_cons rfl sub_nil))))))
   refine wp_block ?_
   obtain ⟨lb4, hl4, hF4⟩ := bind_some hF
   refine wp_loop_sh (fun s => S_impl_BreadthOrder_l4 F r441 s.1 s.2) (fun s a w => ∃ (v443 : Value), Sl 47 [(2, (fdp b3 0)), (6, v443), (7, (int i64 x259)), (31, v442), (32, (int i64 (r441.length : Int))), (33, (int i64 s.2))] a ∧ Mem Nob w0 w [(true, bx b3 28 [(int i64 p0_g_Size), p0_g_Rowsv]), (false, rd p0_g_Rowsv (List.map (int i64) p0_g_Rows)), (true, ow 3 v443 (List.map (int i64) s.1)), (true, ow 3 v442 (List.map (int i64) r441))]) hl4 ⟨v257, (hS.sub (sub_cons rfl (sub_cons rfl (sub_cons rfl (sub_cons rfl (sub_cons rfl (sub_cons rfl sub_nil))))))), (hM.pick [1, 2, 3, 0] (by decide) rfl)⟩ ?_
   rintro K4 ⟨l444, x445⟩ a w res4 ⟨v443, hS, hM⟩ hF hN4 hX4
   have hF : S_impl_BreadthOrder_l4 F r441 l444 x445 = some res4 := hF
   have hS : Sl 47 [(2, (fdp b3 0)), (6, v443), (7, (int i64 x259)), (31, v442), (32, (int i64 (r441.length : Int))), (33, (int i64 x445))] a := hS
   have hM : Mem Nob w0 w [(true, bx b3 28 [(int i64 p0_g_Size), p0_g_Rowsv]), (false, rd p0_g_Rowsv (List.map (int i64) p0_g_Rows)), (true, ow 3 v443 (List.map (int i64) l444)), (true, ow 3 v442 (List.map (int i64) r441))] := hM
   unfold S_impl_BreadthOrder_l4 at hF
   refine wp_seq_k fun K467 hK467 => ?_
   refine wp_region_lit ?_
   refine st_val hS rfl rfl (by decide) (rv_lss (hS.ev rfl) (hS.ev rfl)) fun a hS => ?_
   refine wpList_nil ?_
   refine hK467 _ _ ?_
   refine wp_seq_k fun K468 hK468 => ?_
   rcases ite_some hF with ⟨hc, hF⟩ | ⟨hc, hF⟩
   ·refine cond_t hS rfl hc ?_
    refine wp_skip ?_
    refine hK468 _ _ ?_
    refine wp_seq_k fun K469 hK469 => ?_
    have hJ5 : ∀ (l479 : List Int) (v478 : Value) (a : Act) (w : World), Sl 47 [(2, (fdp b3 0)), (6, v478), (7, (int i64 x259)), (31, v442), (32, (int i64 (r441.length : Int))), (33, (int i64 x445))] a → Mem Nob w0 w [(true, bx b3 28 [(int i64 p0_g_Size), p0_g_Rowsv]), (false, rd p0_g_Rowsv (List.map (int i64) p0_g_Rows)), (true, ow 3 v478 (List.map (int i64) l479)), (true, ow 3 v442 (List.map (int i64) r441))] → S_impl_BreadthOrder_j5 F x445 l479 = some res4 → K469 a w := by
     intro l479 v478 a w hS hM hF
     unfold S_impl_BreadthOrder_j5 at hF
     refine hK469 _ _ ?_
     refine wp_region_lit ?_
     refine st_val hS rfl rfl (by decide) (rv_add (hS.ev rfl) (hS.ev rfl)) fun a hS => ?_
     refine st_val hS rfl rfl (by decide) (rv_move (hS.ev rfl)) fun a hS => ?_
     refine wpList_nil ?_
     cases hF
     exact hN4 _ _ _ rfl ⟨v478, (hS.sub (sub_cons rfl (sub_cons rfl (sub_cons rfl (sub_cons rfl (sub_cons rfl (sub_cons rfl sub_nil))))))), (hM.pick [0, 1, 2, 3] (by decide) rfl)⟩
    refine wp_block ?_
    refine wp_seq_k fun K480 hK480 => ?_
    refine wp_region_lit ?_
    obtain ⟨x482, hx, hF⟩ := bind_some hF
    obtain ⟨hi0, hi1, hex482⟩ := idxL_some hx
    refine st_val hS rfl rfl (by decide) (rv_indexAddr Try.underlying22 ty_el_3 (hS.ev rfl) (hS.ev rfl) (rd_of_ow (hM.get 3 rfl)) hi0 (map_len hi1)) fun a hS => ?_
    refine st_val hS rfl rfl (by decide) (rv_load_el (hS.ev rfl) ty_ag_3 (rd_of_ow (hM.get 3 rfl)) (mget hex482)) fun a hS => ?_
    refine st_val hS rfl rfl (by decide) (rv_assign (hS.ev rfl)) fun a hS => ?_
    refine wpList_nil ?_
    refine hK480 _ _ ?_
    refine wp_seq_k fun K483 hK483 => ?_
    refine wp_region_lit ?_
    refine st_val hS rfl rfl (by decide) (rv_move (hS.ev rfl)) fun a hS => ?_
    refine st_val hS rfl rfl (by decide) (rv_move (hS.ev rfl)) fun a hS => ?_
    obtain ⟨r485, hr, hF⟩ := bind_some hF
    refine st_wp hS rfl (wp_call hS rfl rfl (by decide) fn_ok_106 rfl (c_slices_Contains_int F l444 x482 v443 hr _ (rd_of_ow (hM.get 2 rfl))) fun v w a hK hS => ?_)
    obtain ⟨rfl, hN⟩ := hK
    have hM := hM.fra hN.fr
    refine st_val hS rfl rfl (by decide) (rv_not (hS.ev rfl)) fun a hS => ?_
    refine wpList_nil ?_
    refine hK483 _ _ ?_
    rcases ite_some hF with ⟨hc, hF⟩ | ⟨hc, hF⟩
    ·refine cond_t hS rfl hc ?_
     refine wp_region_lit ?_
     refine st_val hS rfl rfl (by decide) (rv_move (hS.ev rfl)) fun a hS => ?_
     refine st_val hS rfl rfl (by decide) (rv_move (hS.ev rfl)) fun a hS => ?_
     obtain ⟨v486, w, hr, hM⟩ := Mem.litE (f := (int i64)) (dst := some 43) (ty := _) (pos := _) (af := _) (gd := _) (ps := [(0, .tmp 42)]) ([x482] : List (Int)) i64_one hM hS Try.underlying22 ty_el_3 rfl rfl rfl rfl
     refine st_val hS rfl rfl (by decide) hr fun a hS => ?_
     obtain ⟨_, hx, hF⟩ := bind_some hF
     have hM := hM.pick [3, 0, 1, 2, 4] (by decide) rfl
     obtain ⟨v487, w, hr, hM⟩ := Mem.appE (f := (int i64)) (S := _) (R := [(true, ow 3 v486 (List.map (int i64) ([x482] : List (Int)))), (true, bx b3 28 [(int i64 p0_g_Size), p0_g_Rowsv]), (false, rd p0_g_Rowsv (List.map (int i64) p0_g_Rows)), (true, ow 3 v442 (List.map (int i64) r441))]) (ρ := a.eval) (dst := some 44) (ty := _) (pos := _) (af := _) (gd := _) (x := .tmp 41) (y := .tmp 43) i64_one hM Try.underlying22 ty_el_3 rfl (by decide) (hS.ev rfl) (hS.ev rfl) (rd_of_ow (hM.get 1 rfl)) (catO_some hx)
     refine st_val hS rfl rfl (by decide) hr fun a hS => ?_
     refine st_val hS rfl rfl (by decide) (rv_assign (hS.ev rfl)) fun a hS => ?_
     refine wpList_nil ?_
     exact hJ5 (l444 ++ ([x482] : List (Int))) v487 _ _ (hS.sub (sub_cons rfl (sub_cons rfl (sub_cons rfl (sub_cons rfl (sub_cons rfl (sub_cons rfl sub_nil))))))) (hM.pick [2, 3, 0, 4] (by decide) rfl) hF
    ·refine cond_f hS rfl hc ?_
     refine wp_skip ?_
     exact hJ5 l444 v443 _ _ (hS.sub (sub_cons rfl (sub_cons rfl (sub_cons rfl (sub_cons rfl (sub_cons rfl (sub_cons rfl sub_nil))))))) (hM.pick [0, 1, 2, 3] (by decide) rfl) hF
   ·refine cond_f hS rfl hc ?_
    refine wp_exit ?_
    cases hF
    exact hJ3 l444 v443 _ _ (hS.sub (sub_cons rfl (sub_cons rfl (sub_cons rfl sub_nil)))) (hM.pick [0, 1, 2] (by decide) rfl) (by have e := hX4 _ rfl; subst e; exact hF4)
  ·refine cond_f hS rfl hc ?_
   refine wp_exit ?_
   cases hF
   exact hJ1 l258 v257 _ _ (hS.sub (sub_cons rfl sub_nil)) (hM.pick [2] (by decide) rfl) (by have e := hX2 _ rfl; subst e; exact hF2)


theorem c_spec_BreadthOrder (F : Nat) (p0_g_Size : Int) (p0_g_Rows : List Int) (p1_start : Int) (p0_g_Rowsv : Value) {r : (List (Int)) × Bool} (hF : S_spec_BreadthOrder F p0_g_Size p0_g_Rows p1_start = some r) (w0 : World) (h0 : RdRow w0 p0_g_Rowsv (List.map (int i64) p0_g_Rows)) :
    Calls Try.prog 52 [(Value.agg #[(int i64 p0_g_Size), p0_g_Rowsv]), (int i64 p1_start)].toArray w0 (retPost fun v w' => ∃ v569, v = (Value.tuple #[v569, (Value.bool r.2)]) ∧ Mem Nob w0 w' [(true, ow 3 v569 (List.map (int i64) r.1))]) := by
 have hM : Mem Nob w0 w0 [(false, rd p0_g_Rowsv (List.map (int i64) p0_g_Rows))] := (Mem.rcons (Mem.nil w0) h0 (by simp))
 refine enter2 Try.func52 rfl rfl rfl fun Q a hQr hQn hQp hS => ?_
 have hS : Sl 63 [(0, (Value.agg #[(int i64 p0_g_Size), p0_g_Rowsv])), (1, (int i64 p1_start))] a := hS
 unfold S_spec_BreadthOrder at hF
 refine wp_seq_k fun K1 hK1 => ?_
 refine wp_region_lit ?_
 obtain ⟨b3, w, hr, hM⟩ := hM.boxE (ρ := a.eval) (dst := some 2) (ty := _) (pos := _) (af := _) (gd := _) (x := .tmp 0) (T := 28) [(int i64 p0_g_Size), p0_g_Rowsv] (hS.ev rfl) rfl
 refine st_val hS rfl rfl (by decide) hr fun a hS => ?_
 refine st_val hS rfl rfl (by decide) (rv_assign (hS.ev rfl)) fun a hS => ?_
 refine st_val hS rfl rfl (by decide) (rv_assign (hS.ev rfl)) fun a hS => ?_
 refine wpList_nil ?_
 refine hK1 _ _ ?_
 refine wp_seq_k fun K4 hK4 => ?_
 refine wp_seq_k fun K12 hK12 => ?_
 have hJ1 : ∀ (p14 : Bool) (a : Act) (w : World), Sl 63 [(1, (int i64 p1_start)), (2, (fdp b3 0)), (22, (Value.bool p14))] a → Mem Nob w0 w [(true, bx b3 28 [(int i64 p0_g_Size), p0_g_Rowsv]), (false, rd p0_g_Rowsv (List.map (int i64) p0_g_Rows))] → S_spec_BreadthOrder_j1 F p0_g_Size p0_g_Rows p1_start p14 = some r → K12 a w := by
  intro p14 a w hS hM hF
  unfold S_spec_BreadthOrder_j1 at hF
  refine hK12 _ _ ?_
  rcases ite_some hF with ⟨hc, hF⟩ | ⟨hc, hF⟩
  ·refine cond_t hS rfl hc ?_
   refine wp_seq_k fun K15 hK15 => ?_
   refine wp_region_lit ?_
   obtain ⟨v17, w, hr, hM⟩ := Mem.litE (f := (int i64)) (dst := some 23) (ty := _) (pos := _) (af := _) (gd := _) (ps := []) ([] : List (Int)) i64_one hM hS Try.underlying22 ty_el_3 rfl rfl rfl rfl
   refine st_val hS rfl rfl (by decide) hr fun a hS => ?_
   refine st_val hS rfl rfl (by decide) (rv_assign (hS.ev rfl)) fun a hS => ?_
   refine st_val hS rfl rfl (by decide) (rv_assign (hS.ev rfl)) fun a hS => ?_
   refine wpList_nil ?_
   refine hK15 _ _ ?_
   refine wp_ret ?_
   cases hF
   exact hQr _ _ (r_2 hS rfl rfl rfl ⟨v17, rfl, hM.pick [0] (by decide) rfl⟩)
  ·refine cond_f hS rfl hc ?_
   refine wp_skip ?_
   refine hK4 _ _ ?_
   refine wp_seq_k fun K18 hK18 => ?_
   refine wp_region_lit ?_
   refine st_val hS rfl rfl (by decide) (rv_move (hS.ev rfl)) fun a hS => ?_
   obtain ⟨v20, w, hr, hM⟩ := Mem.litE (f := (int i64)) (dst := some 25) (ty := _) (pos := _) (af := _) (gd := _) (ps := [(0, .tmp 24)]) ([p1_start] : List (Int)) i64_one hM hS Try.underlying22 ty_el_3 rfl rfl rfl rfl
   refine st_val hS rfl rfl (by decide) hr fun a hS => ?_
   refine st_val hS rfl rfl (by decide) (rv_assign (hS.ev rfl)) fun a hS => ?_
   refine wpList_nil ?_
   refine hK18 _ _ ?_
   refine wp_seq_k fun K21 hK21 => ?_
   refine wp_region_lit ?_
   refine st_val hS rfl rfl (by decide) (rv_move (hS.ev rfl)) fun a hS => ?_
   obtain ⟨_, hx, hF⟩ := bind_some hF
   have hi0 := nnO_some hx
   refine st_val hS rfl rfl (by decide) (rv_shl (hS.ev rfl) (hS.ev rfl) hi0) fun a hS => ?_
   refine st_val hS rfl rfl (by decide) (rv_assign (hS.ev rfl)) fun a hS => ?_
   refine wpList_nil ?_
   refine hK21 _ _ ?_
   refine wp_seq_k fun K22 hK22 => ?_
   have hJ2 : ∀ (l295 : List Int) (v294 : Value) (a : Act) (w : World), Sl 63 [(6, v294)] a → Mem Nob w0 w [(true, ow 3 v294 (List.map (int i64) l295))] → S_spec_BreadthOrder_j2 F l295 = some r → K22 a w := by
    intro l295 v294 a w hS hM hF
    unfold S_spec_BreadthOrder_j2 at hF
    refine hK22 _ _ ?_
    refine wp_seq_k fun K296 hK296 => ?_
    refine wp_region_lit ?_
    refine st_val hS rfl rfl (by decide) (rv_move (hS.ev rfl)) fun a hS => ?_
    refine st_val hS rfl rfl (by decide) (rv_assign (hS.ev rfl)) fun a hS => ?_
    refine st_val hS rfl rfl (by decide) (rv_assign (hS.ev rfl)) fun a hS => ?_
    refine wpList_nil ?_
    refine hK296 _ _ ?_
    refine wp_ret ?_
    cases hF
    exact hQr _ _ (r_2 hS rfl rfl rfl ⟨v294, rfl, hM.pick [0] (by decide) rfl⟩)
   refine wp_seq_k fun K297 hK297 => ?_
   refine wp_region_lit ?_
   refine st_val hS rfl rfl (by decide) (rv_assign (hS.ev rfl)) fun a hS => ?_
   refine wpList_nil ?_
   refine hK297 _ _ ?_
   refine wp_block ?_
   obtain ⟨lb3, hl3, hF3⟩ := bind_some hF
   refine wp_loop_sh (fun s => S_spec_BreadthOrder_l3 F p0_g_Size p0_g_Rows s.1 s.2.1 s.2.2) (fun s a w => ∃ (v298 : Value), Sl 63 [(2, (fdp b3 0)), (6, v298), (7, (int i64 s.2.1)), (8, (int i64 s.2.2))] a ∧ Mem Nob w0 w [(true, bx b3 28 [(int i64 p0_g_Size), p0_g_Rowsv]), (false, rd p0_g_Rowsv (List.map (int i64) p0_g_Rows)), (true, ow 3 v298 (List.map (int i64) s.1))]) hl3 ⟨v20, (hS.sub (sub_cons rfl (sub_cons rfl (sub_cons rfl (sub_cons rfl sub_nil))))), (hM.pick [1, 2, 0] (by decide) rfl)⟩ ?_
   rintro K3 ⟨l299, x300, x301⟩ a w res3 ⟨v298, hS, hM⟩ hF hN3 hX3
   have hF : S_spec_BreadthOrder_l3 F p0_g_Size p0_g_Rows l299 x300 x301 = some res3 := hF
   have hS : Sl 63 [(2, (fdp b3 0)), (6, v298), (7, (int i64 x300)), (8, (int i64 x301))] a := hS
   have hM : Mem Nob w0 w [(true, bx b3 28 [(int i64 p0_g_Size), p0_g_Rowsv]), (false, rd p0_g_Rowsv (List.map (int i64) p0_g_Rows)), (true, ow 3 v298 (List.map (int i64) l299))] := hM
   unfold S_spec_BreadthOrder_l3 at hF
   refine wp_seq_k fun K435 hK435 => ?_
   refine wp_seq_k fun K437 hK437 => ?_
   refine wp_region_lit ?_
   refine st_val hS rfl rfl (by decide) (rv_move (hS.ev rfl)) fun a hS => ?_
   refine st_val hS rfl rfl (by decide) (rv_move (hS.ev rfl)) fun a hS => ?_
   refine st_val hS rfl rfl (by decide) (rv_len_rowM Try.underlying22 (hS.ev rfl) (rd_of_ow (hM.get 2 rfl))) fun a hS => ?_
   refine st_val hS rfl rfl (by decide) (rv_lss (hS.ev rfl) (hS.ev rfl)) fun a hS => ?_
   refine wpList_nil ?_
   refine hK437 _ _ ?_
   rcases ite_some hF with ⟨hc, hF⟩ | ⟨hc, hF⟩
   ·refine cond_t hS rfl hc ?_
    refine wp_skip ?_
    refine hK435 _ _ ?_
    refine wp_seq_k fun K438 hK438 => ?_
    have hJ4 : ∀ (l503 : List Int) (x504 : Int) (v502 : Value) (a : Act) (w : World), Sl 63 [(2, (fdp b3 0)), (6, v502), (7, (int i64 x504)), (8, (int i64 x301))] a → Mem Nob w0 w [(true, bx b3 28 [(int i64 p0_g_Size), p0_g_Rowsv]), (false, rd p0_g_Rowsv (List.map (int i64) p0_g_Rows)), (true, ow 3 v502 (List.map (int i64) l503))] → S_spec_BreadthOrder_j4 F x301 l503 x504 = some res3 → K438 a w := by
     intro l503 x504 v502 a w hS hM hF
     unfold S_spec_BreadthOrder_j4 at hF
     refine hK438 _ _ ?_
     refine wp_region_lit ?_
     refine st_val hS rfl rfl (by decide) (rv_move (hS.ev rfl)) fun a hS => ?_
     refine st_val hS rfl rfl (by decide) (rv_add (hS.ev rfl) (hS.ev rfl)) fun a hS => ?_
     refine st_val hS rfl rfl (by decide) (rv_assign (hS.ev rfl)) fun a hS => ?_
     refine wpList_nil ?_
     cases hF
     exact hN3 _ _ _ rfl ⟨v502, (hS.sub (sub_cons rfl (sub_cons rfl (sub_cons rfl (sub_cons rfl sub_nil))))), (hM.pick [0, 1, 2] (by decide) rfl)⟩
    refine wp_block ?_
    refine wp_seq_k fun K505 hK505 => ?_
    refine wp_region_lit ?_
    refine st_val hS rfl rfl (by decide) (rv_assign (hS.ev rfl)) fun a hS => ?_
    refine wpList_nil ?_
    refine hK505 _ _ ?_
    refine wp_block ?_
    obtain ⟨lb5, hl5, hF5⟩ := bind_some hF
    refine wp_loop_sh (fun s => S_spec_BreadthOrder_l5 F p0_g_Size p0_g_Rows x301 s.1 s.2.1 s.2.2) (fun s a w => ∃ (v506 : Value), Sl 63 [(2, (fdp b3 0)), (6, v506), (7, (int i64 s.2.1)), (8, (int i64 x301)), (9, (int i64 s.2.2))] a ∧ Mem Nob w0 w [(true, bx b3 28 [(int i64 p0_g_Size), p0_g_Rowsv]), (false, rd p0_g_Rowsv (List.map (int i64) p0_g_Rows)), (true, ow 3 v506 (List.map (int i64) s.1))]) hl5 ⟨v298, (hS.sub (sub_cons rfl (sub_cons rfl (sub_cons rfl (sub_cons rfl (sub_cons rfl sub_nil)))))), (hM.pick [0, 1, 2] (by decide) rfl)⟩ ?_
    rintro K5 ⟨l507, x508, x509⟩ a w res5 ⟨v506, hS, hM⟩ hF hN5 hX5
    have hF : S_spec_BreadthOrder_l5 F p0_g_Size p0_g_Rows x301 l507 x508 x509 = some res5 := hF
    have hS : Sl 63 [(2, (fdp b3 0)), (6, v506), (7, (int i64 x508)), (8, (int i64 x301)), (9, (int i64 x509))] a := hS
    have hM : Mem Nob w0 w [(true, bx b3 28 [(int i64 p0_g_Size), p0_g_Rowsv]), (false, rd p0_g_Rowsv (List.map (int i64) p0_g_Rows)), (true, ow 3 v506 (List.map (int i64) l507))] := hM
    unfold S_spec_BreadthOrder_l5 at hF
    refine wp_seq_k fun K539 hK539 => ?_
    refine wp_seq_k fun K541 hK541 => ?_
    refine wp_region_lit ?_
    refine st_val hS rfl rfl (by decide) (rv_move (hS.ev rfl)) fun a hS => ?_
    refine st_val hS rfl rfl (by decide) (rv_fieldAddr ty_fd_28_0 (hS.ev rfl)) fun a hS => ?_
    refine st_val hS rfl rfl (by decide) (rv_load_bx (hS.ev rfl) ty_ag_3 (hM.get 0 rfl) rfl) fun a hS => ?_
    refine st_val hS rfl rfl (by decide) (rv_lss (hS.ev rfl) (hS.ev rfl)) fun a hS => ?_
    refine wpList_nil ?_
    refine hK541 _ _ ?_
    rcases ite_some hF with ⟨hc, hF⟩ | ⟨hc, hF⟩
    ·refine cond_t hS rfl hc ?_
     refine wp_skip ?_
     refine hK539 _ _ ?_
     refine wp_seq_k fun K542 hK542 => ?_
     have hJ6 : ∀ (l555 : List Int) (x556 : Int) (v554 : Value) (a : Act) (w : World), Sl 63 [(2, (fdp b3 0)), (6, v554), (7, (int i64 x556)), (8, (int i64 x301)), (9, (int i64 x509))] a → Mem Nob w0 w [(true, bx b3 28 [(int i64 p0_g_Size), p0_g_Rowsv]), (false, rd p0_g_Rowsv (List.map (int i64) p0_g_Rows)), (true, ow 3 v554 (List.map (int i64) l555))] → S_spec_BreadthOrder_j6 F x509 l555 x556 = some res5 → K542 a w := by
      intro l555 x556 v554 a w hS hM hF
      unfold S_spec_BreadthOrder_j6 at hF
      refine hK542 _ _ ?_
      refine wp_region_lit ?_
      refine st_val hS rfl rfl (by decide) (rv_move (hS.ev rfl)) fun a hS => ?_
      refine st_val hS rfl rfl (by decide) (rv_add (hS.ev rfl) (hS.ev rfl)) fun a hS => ?_
      refine st_val hS rfl rfl (by decide) (rv_assign (hS.ev rfl)) fun a hS => ?_
      refine wpList_nil ?_
      cases hF
      exact hN5 _ _ _ rfl ⟨v554, (hS.sub (sub_cons rfl (sub_cons rfl (sub_cons rfl (sub_cons rfl (sub_cons rfl sub_nil)))))), (hM.pick [0, 1, 2] (by decide) rfl)⟩
     refine wp_block ?_
     refine wp_seq_k fun K557 hK557 => ?_
     have hJ7 : ∀ (p560 : Bool) (a : Act) (w : World), Sl 63 [(2, (fdp b3 0)), (6, v506), (7, (int i64 x508)), (8, (int i64 x301)), (9, (int i64 x509)), (53, (Value.bool p560))] a → Mem Nob w0 w [(true, bx b3 28 [(int i64 p0_g_Size), p0_g_Rowsv]), (false, rd p0_g_Rowsv (List.map (int i64) p0_g_Rows)), (true, ow 3 v506 (List.map (int i64) l507))] → S_spec_BreadthOrder_j7 F l507 x508 x509 p560 = some res5 → K557 a w := by
      intro p560 a w hS hM hF
      unfold S_spec_BreadthOrder_j7 at hF
      refine hK557 _ _ ?_
      rcases ite_some hF with ⟨hc, hF⟩ | ⟨hc, hF⟩
      ·refine cond_t hS rfl hc ?_
       refine wp_seq_k fun K561 hK561 => ?_
       refine wp_region_lit ?_
       refine st_val hS rfl rfl (by decide) (rv_move (hS.ev rfl)) fun a hS => ?_
       refine st_val hS rfl rfl (by decide) (rv_move (hS.ev rfl)) fun a hS => ?_
       obtain ⟨v564, w, hr, hM⟩ := Mem.litE (f := (int i64)) (dst := some 56) (ty := _) (pos := _) (af := _) (gd := _) (ps := [(0, .tmp 55)]) ([x509] : List (Int)) i64_one hM hS Try.underlying22 ty_el_3 rfl rfl rfl rfl
       refine st_val hS rfl rfl (by decide) hr fun a hS => ?_
       obtain ⟨_, hx, hF⟩ := bind_some hF
       have hM := hM.pick [3, 0, 1, 2] (by decide) rfl
       obtain ⟨v565, w, hr, hM⟩ := Mem.appE (f := (int i64)) (S := _) (R := [(true, ow 3 v564 (List.map (int i64) ([x509] : List (Int)))), (true, bx b3 28 [(int i64 p0_g_Size), p0_g_Rowsv]), (false, rd p0_g_Rowsv (List.map (int i64) p0_g_Rows))]) (ρ := a.eval) (dst := some 57) (ty := _) (pos := _) (af := _) (gd := _) (x := .tmp 54) (y := .tmp 56) i64_one hM Try.underlying22 ty_el_3 rfl (by decide) (hS.ev rfl) (hS.ev rfl) (rd_of_ow (hM.get 1 rfl)) (catO_some hx)
       refine st_val hS rfl rfl (by decide) hr fun a hS => ?_
       refine st_val hS rfl rfl (by decide) (rv_assign (hS.ev rfl)) fun a hS => ?_
       refine wpList_nil ?_
       refine hK561 _ _ ?_
       refine wp_region_lit ?_
       refine st_val hS rfl rfl (by decide) (rv_move (hS.ev rfl)) fun a hS => ?_
       refine st_val hS rfl rfl (by decide) (rv_move (hS.ev rfl)) fun a hS => ?_
       obtain ⟨_, hx, hF⟩ := bind_some hF
       have hi0 := nnO_some hx
       refine st_val hS rfl rfl (by decide) (rv_shl (hS.ev rfl) (hS.ev rfl) hi0) fun a hS => ?_
       refine st_val hS rfl rfl (by decide) (rv_add (hS.ev rfl) (hS.ev rfl)) fun a hS => ?_
       refine st_val hS rfl rfl (by decide) (rv_assign (hS.ev rfl)) fun a hS => ?_
       refine wpList_nil ?_
       exact hJ6 (l507 ++ ([x509] : List (Int))) (i64.wrap (x508 + (shL 1 x509))) v565 _ _ (hS.sub (sub_cons rfl (sub_cons rfl (sub_cons rfl (sub_cons rfl (sub_cons rfl sub_nil)))))) (hM.pick [2, 3, 0] (by decide) rfl) hF
      ·refine cond_f hS rfl hc ?_
       refine wp_skip ?_
       exact hJ6 l507 x508 v506 _ _ (hS.sub (sub_cons rfl (sub_cons rfl (sub_cons rfl (sub_cons rfl (sub_cons rfl sub_nil)))))) (hM.pick [0, 1, 2] (by decide) rfl) hF
     refine an_startB 14 Nob ty_mixed (by kernel_rfl) fun w hf => ?_
     have hM := hM.fra hf
     have hB := hM
     have hM := hB.reg0
     refine tkB hS 0 1 (by kernel_rfl) rfl rfl rfl hQp rfl (fun w' hC' => (rv_move (hS.ev rfl))) hM.fr fun a hS => ?_
     refine tkB hS 1 3 (by kernel_rfl) rfl rfl rfl hQp rfl (fun w' hC' => (rv_move (hS.ev rfl))) hM.fr fun a hS => ?_
     obtain ⟨_, hx, hF⟩ := bind_some hF
     have hi0 := nnO_some hx
     refine tkB hS 2 7 (by kernel_rfl) rfl rfl rfl hQp rfl (fun w' hC' => (rv_shr (hS.ev rfl) (hS.ev rfl) hi0)) hM.fr fun a hS => ?_
     refine tkB hS 3 15 (by kernel_rfl) rfl rfl rfl hQp rfl (fun w' hC' => (rv_and (hS.ev rfl) (hS.ev rfl))) hM.fr fun a hS => ?_
     refine tkB hS 4 31 (by kernel_rfl) rfl rfl rfl hQp rfl (fun w' hC' => (rv_eql (hS.ev rfl) (hS.ev rfl))) hM.fr fun a hS => ?_
     refine tkB hS 5 63 (by kernel_rfl) rfl rfl rfl hQp rfl (fun w' hC' => (rv_move (hS.ev rfl))) hM.fr fun a hS => ?_
     rcases ite_some hF with ⟨hc, hF⟩ | ⟨hc, hF⟩
     ·have hS := hS.setb (t := 45) rfl hc
      refine tkB hS 6 127 (by kernel_rfl) rfl rfl rfl hQp rfl (fun w' hC' => (rv_load_agg (hS.ev rfl) ty_ag_28 ((hB.fra hC').get 0 rfl) ty_sz_28)) hM.fr fun a hS => ?_
      refine tkB hS 7 255 (by kernel_rfl) rfl rfl rfl hQp rfl (fun w' hC' => (rv_move (hS.ev rfl))) hM.fr fun a hS => ?_
      refine tkB hS 8 511 (by kernel_rfl) rfl rfl rfl hQp rfl (fun w' hC' => (rv_move (hS.ev rfl))) hM.fr fun a hS => ?_
      obtain ⟨x566, hx, hF⟩ := bind_some hF
      obtain ⟨hi0, hi1, hex566⟩ := idxL_some hx
      refine tkB hS 9 1023 (by kernel_rfl) rfl rfl rfl hQp rfl (fun w' hC' => (rv_indexAddr Try.underlying22 ty_el_3 (hS.ev rfl) (hS.ev rfl) (rd_of_ow (hM.get 2 rfl)) hi0 (map_len hi1))) hM.fr fun a hS => ?_
      refine tkB hS 10 2047 (by kernel_rfl) rfl rfl rfl hQp rfl (fun w' hC' => (rv_load_el (hS.ev rfl) ty_ag_3 (rd_of_ow ((hB.fra hC').get 2 rfl)) (mget hex566))) hM.fr fun a hS => ?_
      refine tkB hS 11 4095 (by kernel_rfl) rfl rfl rfl hQp rfl (fun w' hC' => (rv_move (hS.ev rfl))) hM.fr fun a hS => ?_
      obtain ⟨r567, hr, hF⟩ := bind_some hF
      refine an_oneB hS (i := 12) 8191 (by kernel_rfl) rfl (by kernel_rfl) rfl ?_
      refine wp_call hS rfl rfl (by decide) fn_ok_94 rfl (c_spec_l2Edge F p0_g_Size p0_g_Rows x566 x509 p0_g_Rowsv hr _ (hM.get 1 rfl)) fun v w a hK hS => ?_
      obtain ⟨rfl, hN⟩ := hK
      have hM := hM.fra hN.fr
      refine ⟨hM.fr, ?_⟩
      refine tkB hS 13 16383 (by kernel_rfl) rfl rfl rfl hQp rfl (fun w' hC' => (rv_pick_t (hS.ev rfl) (hS.ev rfl))) hM.fr fun a hS => ?_
      refine an_done (by kernel_rfl) ?_
      have hN := hM.pick [] (by decide) rfl
      have hM := Mem.callo0 hB hN rfl
      exact hJ7 r567 _ _ (hS.sub (sub_cons rfl (sub_cons rfl (sub_cons rfl (sub_cons rfl (sub_cons rfl (sub_cons rfl sub_nil))))))) (hM.pick [0, 1, 2] (by decide) rfl) hF
     ·have hS := hS.setb (t := 45) rfl hc
      refine skB hS [6, 7, 8, 9, 10, 11, 12] [46, 47, 48, 49, 50, 51, 52] 8191 1 rfl (by kernel_rfl) hQp hM.fr fun a hS => ?_
      refine tkB hS 13 16383 (by kernel_rfl) rfl rfl rfl hQp rfl (fun w' hC' => (rv_pick_f (hS.ev rfl) (hS.ev rfl))) hM.fr fun a hS => ?_
      refine an_done (by kernel_rfl) ?_
      have hN := hM.pick [] (by decide) rfl
      have hM := Mem.callo0 hB hN rfl
      exact hJ7 false _ _ (hS.sub (sub_cons rfl (sub_cons rfl (sub_cons rfl (sub_cons rfl (sub_cons rfl (sub_cons rfl sub_nil))))))) (hM.pick [0, 1, 2] (by decide) rfl) hF
    ·refine cond_f hS rfl hc ?_
     refine wp_exit ?_
     cases hF
     exact hJ4 l507 x508 v506 _ _ (hS.sub (sub_cons rfl (sub_cons rfl (sub_cons rfl (sub_cons rfl sub_nil))))) (hM.pick [0, 1, 2] (by decide) rfl) (by have e := hX5 _ rfl; subst e; exact hF5)
   ·refine cond_f hS rfl hc ?_
    refine wp_exit ?_
    cases hF
    exact hJ2 l299 v298 _ _ (hS.sub (sub_cons rfl sub_nil)) (hM.pick [2] (by decide) rfl) (by have e := hX3 _ rfl; subst e; exact hF3)
 refine wp_region_lit ?_
 refine st_val hS rfl rfl (by decide) (rv_load_agg (hS.ev rfl) ty_ag_28 (hM.get 0 rfl) ty_sz_28) fun a hS => ?_
 obtain ⟨r568, hr, hF⟩ := bind_some hF
 refine st_wp hS rfl (wp_call hS rfl rfl (by decide) fn_ok_73 rfl (c_spec_IsGraph F p0_g_Size p0_g_Rows p0_g_Rowsv hr _ (hM.get 1 rfl)) fun v w a hK hS => ?_)
 obtain ⟨rfl, hN⟩ := hK
 have hM := hM.fra hN.fr
 refine st_val hS rfl rfl (by decide) (rv_not (hS.ev rfl)) fun a hS => ?_
 refine st_val hS rfl rfl (by decide) (rv_move (hS.ev rfl)) fun a hS => ?_
 rcases ite_some hF with ⟨hc, hF⟩ | ⟨hc, hF⟩
 ·have hS := hS.setb (t := 13) rfl hc
  refine st_skip hS rfl rfl (by decide) fun a hS => ?_
  refine st_skip hS rfl rfl (by decide) fun a hS => ?_
  refine st_val hS rfl rfl (by decide) (rv_pick_t (hS.ev rfl) (hS.ev rfl)) fun a hS => ?_
  refine st_val hS rfl rfl (by decide) (rv_move (hS.ev rfl)) fun a hS => ?_
  refine st_skip hS rfl rfl (by decide) fun a hS => ?_
  refine st_skip hS rfl rfl (by decide) fun a hS => ?_
  refine st_skip hS rfl rfl (by decide) fun a hS => ?_
  refine st_skip hS rfl rfl (by decide) fun a hS => ?_
  refine st_val hS rfl rfl (by decide) (rv_pick_t (hS.ev rfl) (hS.ev rfl)) fun a hS => ?_
  refine wpList_nil ?_
  exact hJ1 true _ _ (hS.sub (sub_cons rfl (sub_cons rfl (sub_cons rfl sub_nil)))) (hM.pick [0, 1] (by decide) rfl) hF
 ·have hS := hS.setb (t := 13) rfl hc
  refine st_val hS rfl rfl (by decide) (rv_move (hS.ev rfl)) fun a hS => ?_
  refine st_val hS rfl rfl (by decide) (rv_lss (hS.ev rfl) (hS.ev rfl)) fun a hS => ?_
  refine st_val hS rfl rfl (by decide) (rv_pick_f (hS.ev rfl) (hS.ev rfl)) fun a hS => ?_
  refine st_val hS rfl rfl (by decide) (rv_move (hS.ev rfl)) fun a hS => ?_
  rcases ite_some hF with ⟨hc, hF⟩ | ⟨hc, hF⟩
  ·have hS := hS.setb (t := 17) rfl hc
   refine st_skip hS rfl rfl (by decide) fun a hS => ?_
   refine st_skip hS rfl rfl (by decide) fun a hS => ?_
   refine st_skip hS rfl rfl (by decide) fun a hS => ?_
   refine st_skip hS rfl rfl (by decide) fun a hS => ?_
   refine st_val hS rfl rfl (by decide) (rv_pick_t (hS.ev rfl) (hS.ev rfl)) fun a hS => ?_
   refine wpList_nil ?_
   exact hJ1 true _ _ (hS.sub (sub_cons rfl (sub_cons rfl (sub_cons rfl sub_nil)))) (hM.pick [0, 1] (by decide) rfl) hF
  ·have hS := hS.setb (t := 17) rfl hc
   refine st_val hS rfl rfl (by decide) (rv_move (hS.ev rfl)) fun a hS => ?_
   refine st_val hS rfl rfl (by decide) (rv_fieldAddr ty_fd_28_0 (hS.ev rfl)) fun a hS => ?_
   refine st_val hS rfl rfl (by decide) (rv_load_bx (hS.ev rfl) ty_ag_3 (hM.get 0 rfl) rfl) fun a hS => ?_
   refine st_val hS rfl rfl (by decide) (rv_geq (hS.ev rfl) (hS.ev rfl)) fun a hS => ?_
   refine st_val hS rfl rfl (by decide) (rv_pick_f (hS.ev rfl) (hS.ev rfl)) fun a hS => ?_
   refine wpList_nil ?_
   exact hJ1 (decide (p0_g_Size ≤ p1_start)) _ _ (hS.sub (sub_cons rfl (sub_cons rfl (sub_cons rfl sub_nil)))) (hM.pick [0, 1] (by decide) rfl) hF


theorem c_impl_areVertices (F : Nat) (p0_g_Size : Int) (p0_g_Rows : List Int) (p1_l : List Int) (p0_g_Rowsv : Value) (p1_lv : Value) {r : Bool} (hF : S_impl_areVertices F p0_g_Size p0_g_Rows p1_l = some r) (w0 : World) (h0 : RdRow w0 p0_g_Rowsv (List.map (int i64) p0_g_Rows)) (h1 : RdRow w0 p1_lv (List.map (int i64) p1_l)) :
    Calls Try.prog 107 [(Value.agg #[(int i64 p0_g_Size), p0_g_Rowsv]), p1_lv].toArray w0 (retPost fun v w' => v = (Value.bool r) ∧ Mem Nob w0 w' []) := by
 have hM : Mem Nob w0 w0 [(false, rd p0_g_Rowsv (List.map (int i64) p0_g_Rows)), (false, rd p1_lv (List.map (int i64) p1_l))] := (Mem.rcons (Mem.rcons (Mem.nil w0) h1 (by simp)) h0 (by simp))
 refine enter2 Try.func107 rfl rfl rfl fun Q a hQr hQn hQp hS => ?_
 have hS : Sl 30 [(0, (Value.agg #[(int i64 p0_g_Size), p0_g_Rowsv])), (1, p1_lv)] a := hS
 unfold S_impl_areVertices at hF
 refine wp_seq_k fun K1 hK1 => ?_
 refine wp_region_lit ?_
 obtain ⟨b3, w, hr, hM⟩ := hM.boxE (ρ := a.eval) (dst := some 2) (ty := _) (pos := _) (af := _) (gd := _) (x := .tmp 0) (T := 28) [(int i64 p0_g_Size), p0_g_Rowsv] (hS.ev rfl) rfl
 refine st_val hS rfl rfl (by decide) hr fun a hS => ?_
 refine st_val hS rfl rfl (by decide) (rv_assign (hS.ev rfl)) fun a hS => ?_
 refine wpList_nil ?_
 refine hK1 _ _ ?_
 refine wp_seq_k fun K4 hK4 => ?_
 have hJ1 : ∀ (a : Act) (w : World), Sl 30 [(2, (fdp b3 0))] a → Mem Nob w0 w [(true, bx b3 28 [(int i64 p0_g_Size), p0_g_Rowsv]), (false, rd p0_g_Rowsv (List.map (int i64) p0_g_Rows))] → S_impl_areVertices_j1 F p0_g_Size p0_g_Rows = some r → K4 a w := by
  intro a w hS hM hF
  unfold S_impl_areVertices_j1 at hF
  refine hK4 _ _ ?_
  refine wp_seq_k fun K61 hK61 => ?_
  refine wp_region_lit ?_
  refine st_val hS rfl rfl (by decide) (rv_load_agg (hS.ev rfl) ty_ag_28 (hM.get 0 rfl) ty_sz_28) fun a hS => ?_
  obtain ⟨r63, hr, hF⟩ := bind_some hF
  refine st_wp hS rfl (wp_call hS rfl rfl (by decide) fn_ok_110 rfl (c_impl_IsGraph F p0_g_Size p0_g_Rows p0_g_Rowsv hr _ (hM.get 1 rfl)) fun v w a hK hS => ?_)
  obtain ⟨rfl, hN⟩ := hK
  have hM := hM.fra hN.fr
  refine st_val hS rfl rfl (by decide) (rv_assign (hS.ev rfl)) fun a hS => ?_
  refine wpList_nil ?_
  refine hK61 _ _ ?_
  refine wp_ret ?_
  cases hF
  exact hQr _ _ (r_1 hS rfl rfl ⟨rfl, hM.pick [] (by decide) rfl⟩)
 refine wp_seq_k fun K64 hK64 => ?_
 refine wp_region_lit ?_
 refine st_val hS rfl rfl (by decide) (rv_move (hS.ev rfl)) fun a hS => ?_
 refine st_val hS rfl rfl (by decide) (rv_len_rowM Try.underlying22 (hS.ev rfl) (hM.get 2 rfl)) fun a hS => ?_
 refine st_val hS rfl rfl (by decide) (rv_move (hS.ev rfl)) fun a hS => ?_
 refine wpList_nil ?_
 refine hK64 _ _ ?_
 refine wp_block ?_
 obtain ⟨lb2, hl2, hF2⟩ := bind_some hF
 refine wp_loop_sh (fun s => S_impl_areVertices_l2 F p0_g_Size p1_l s) (fun s a w => Sl 30 [(1, p1_lv), (2, (fdp b3 0)), (7, p1_lv), (8, (int i64 (p1_l.length : Int))), (9, (int i64 s))] a ∧ Mem Nob w0 w [(false, rd p1_lv (List.map (int i64) p1_l)), (true, bx b3 28 [(int i64 p0_g_Size), p0_g_Rowsv]), (false, rd p0_g_Rowsv (List.map (int i64) p0_g_Rows))]) hl2 ⟨(hS.sub (sub_cons rfl (sub_cons rfl (sub_cons rfl (sub_cons rfl (sub_cons rfl sub_nil)))))), (hM.pick [2, 0, 1] (by decide) rfl)⟩ ?_
 rintro K2 x65 a w res2 ⟨hS, hM⟩ hF hN2 hX2
 have hF : S_impl_areVertices_l2 F p0_g_Size p1_l x65 = some res2 := hF
 have hS : Sl 30 [(1, p1_lv), (2, (fdp b3 0)), (7, p1_lv), (8, (int i64 (p1_l.length : Int))), (9, (int i64 x65))] a := hS
 have hM : Mem Nob w0 w [(false, rd p1_lv (List.map (int i64) p1_l)), (true, bx b3 28 [(int i64 p0_g_Size), p0_g_Rowsv]), (false, rd p0_g_Rowsv (List.map (int i64) p0_g_Rows))] := hM
 unfold S_impl_areVertices_l2 at hF
 refine wp_seq_k fun K93 hK93 => ?_
 refine wp_region_lit ?_
 refine st_val hS rfl rfl (by decide) (rv_lss (hS.ev rfl) (hS.ev rfl)) fun a hS => ?_
 refine wpList_nil ?_
 refine hK93 _ _ ?_
 refine wp_seq_k fun K94 hK94 => ?_
 rcases ite_some hF with ⟨hc, hF⟩ | ⟨hc, hF⟩
 ·refine cond_t hS rfl hc ?_
  refine wp_skip ?_
  refine hK94 _ _ ?_
  refine wp_seq_k fun K95 hK95 => ?_
  refine wp_block ?_
  refine wp_seq_k fun K108 hK108 => ?_
  refine wp_region_lit ?_
  refine st_val hS rfl rfl (by decide) (rv_move (hS.ev rfl)) fun a hS => ?_
  obtain ⟨x110, hx, hF⟩ := bind_some hF
  obtain ⟨hi0, hi1, hex110⟩ := idxL_some hx
  refine st_val hS rfl rfl (by decide) (rv_indexAddr Try.underlying22 ty_el_3 (hS.ev rfl) (hS.ev rfl) (hM.get 0 rfl) hi0 (map_len hi1)) fun a hS => ?_
  refine st_val hS rfl rfl (by decide) (rv_load_el (hS.ev rfl) ty_ag_3 (hM.get 0 rfl) (mget hex110)) fun a hS => ?_
  refine st_val hS rfl rfl (by decide) (rv_assign (hS.ev rfl)) fun a hS => ?_
  refine st_val hS rfl rfl (by decide) (rv_assign (hS.ev rfl)) fun a hS => ?_
  refine wpList_nil ?_
  refine hK108 _ _ ?_
  refine wp_seq_k fun K111 hK111 => ?_
  have hJ3 : ∀ (p115 : Bool) (a : Act) (w : World), Sl 30 [(1, p1_lv), (2, (fdp b3 0)), (7, p1_lv), (8, (int i64 (p1_l.length : Int))), (9, (int i64 x65)), (26, (Value.bool p115))] a → Mem Nob w0 w [(false, rd p1_lv (List.map (int i64) p1_l)), (true, bx b3 28 [(int i64 p0_g_Size), p0_g_Rowsv]), (false, rd p0_g_Rowsv (List.map (int i64) p0_g_Rows))] → S_impl_areVertices_j3 F x65 p115 = some res2 → K111 a w := by
   intro p115 a w hS hM hF
   unfold S_impl_areVertices_j3 at hF
   refine hK111 _ _ ?_
   rcases ite_some hF with ⟨hc, hF⟩ | ⟨hc, hF⟩
   ·refine cond_t hS rfl hc ?_
    refine wp_seq_k fun K116 hK116 => ?_
    refine wp_region_lit ?_
    refine st_val hS rfl rfl (by decide) (rv_assign (hS.ev rfl)) fun a hS => ?_
    refine wpList_nil ?_
    refine hK116 _ _ ?_
    have hS : Sl 30 [(4, (Value.bool false))] a := hS.sub (sub_cons rfl sub_nil)
    have hM := hM.pick [] (by decide) rfl
    refine wp_ret ?_
    cases hF
    have e := hX2 _ rfl
    subst e
    have hF := hF2
    cases hF
    exact hQr _ _ (r_1 hS rfl rfl ⟨rfl, hM.pick [] (by decide) rfl⟩)
   ·refine cond_f hS rfl hc ?_
    refine wp_skip ?_
    refine hK95 _ _ ?_
    refine wp_region_lit ?_
    refine st_val hS rfl rfl (by decide) (rv_add (hS.ev rfl) (hS.ev rfl)) fun a hS => ?_
    refine st_val hS rfl rfl (by decide) (rv_move (hS.ev rfl)) fun a hS => ?_
    refine wpList_nil ?_
    cases hF
    exact hN2 _ _ _ rfl ⟨(hS.sub (sub_cons rfl (sub_cons rfl (sub_cons rfl (sub_cons rfl (sub_cons rfl sub_nil)))))), (hM.pick [0, 1, 2] (by decide) rfl)⟩
  refine wp_region_lit ?_
  refine st_val hS rfl rfl (by decide) (rv_move (hS.ev rfl)) fun a hS => ?_
  refine st_val hS rfl rfl (by decide) (rv_fieldAddr ty_fd_28_0 (hS.ev rfl)) fun a hS => ?_
  refine st_val hS rfl rfl (by decide) (rv_load_bx (hS.ev rfl) ty_ag_3 (hM.get 1 rfl) rfl) fun a hS => ?_
  refine st_val hS rfl rfl (by decide) (rv_sub (hS.ev rfl) (hS.ev rfl)) fun a hS => ?_
  obtain ⟨r117, hr, hF⟩ := bind_some hF
  refine st_wp hS rfl (wp_call hS rfl rfl (by decide) fn_ok_76 rfl (c_impl_within F x110 0 (i64.wrap (p0_g_Size - 1)) hr _) fun v w a hK hS => ?_)
  obtain ⟨rfl, hN⟩ := hK
  have hM := hM.fra hN.fr
  refine st_val hS rfl rfl (by decide) (rv_not (hS.ev rfl)) fun a hS => ?_
  refine st_val hS rfl rfl (by decide) (rv_move (hS.ev rfl)) fun a hS => ?_
  rcases ite_some hF with ⟨hc, hF⟩ | ⟨hc, hF⟩
  ·have hS := hS.setb (t := 20) rfl hc
   refine st_skip hS rfl rfl (by decide) fun a hS => ?_
   refine st_skip hS rfl rfl (by decide) fun a hS => ?_
   refine st_skip hS rfl rfl (by decide) fun a hS => ?_
   refine st_skip hS rfl rfl (by decide) fun a hS => ?_
   refine st_skip hS rfl rfl (by decide) fun a hS => ?_
   refine st_val hS rfl rfl (by decide) (rv_pick_t (hS.ev rfl) (hS.ev rfl)) fun a hS => ?_
   refine wpList_nil ?_
   exact hJ3 true _ _ (hS.sub (sub_cons rfl (sub_cons rfl (sub_cons rfl (sub_cons rfl (sub_cons rfl (sub_cons rfl sub_nil))))))) (hM.pick [0, 1, 2] (by decide) rfl) hF
  ·have hS := hS.setb (t := 20) rfl hc
   refine st_val hS rfl rfl (by decide) (rv_move (hS.ev rfl)) fun a hS => ?_
   refine st_val hS rfl rfl (by decide) (rv_move (hS.ev rfl)) fun a hS => ?_
   obtain ⟨_, hx, hF⟩ := bind_some hF
   have hj118 := slO_some hx
   refine st_val hS rfl rfl (by decide) (rv_slH Try.underlying22 ty_el_3 (hS.ev rfl) (hS.ev rfl) (hM.get 0 rfl) hj118.1 (map_le hj118.2)) fun a hS => ?_
   refine st_val hS rfl rfl (by decide) (rv_move (hS.ev rfl)) fun a hS => ?_
   obtain ⟨r119, hr, hF⟩ := bind_some hF
   refine st_wp hS rfl (wp_call hS rfl rfl (by decide) fn_ok_106 rfl (c_slices_Contains_int F (p1_l.take (x65.toNat)) x110 (slH p1_lv (x65.toNat)) hr _ (rd_slHm (hM.get 0 rfl) hj118.2)) fun v w a hK hS => ?_)
   obtain ⟨rfl, hN⟩ := hK
   have hM := hM.fra hN.fr
   refine st_val hS rfl rfl (by decide) (rv_pick_f (hS.ev rfl) (hS.ev rfl)) fun a hS => ?_
   refine wpList_nil ?_
   exact hJ3 r119 _ _ (hS.sub (sub_cons rfl (sub_cons rfl (sub_cons rfl (sub_cons rfl (sub_cons rfl (sub_cons rfl sub_nil))))))) (hM.pick [0, 1, 2] (by decide) rfl) hF
 ·refine cond_f hS rfl hc ?_
  refine wp_exit ?_
  cases hF
  exact hJ1 _ _ (hS.sub (sub_cons rfl sub_nil)) (hM.pick [1, 2] (by decide) rfl) (by have e := hX2 _ rfl; subst e; exact hF2)


theorem c_impl_IsOrder (F : Nat) (p0_g_Size : Int) (p0_g_Rows : List Int) (p1_l : List Int) (p0_g_Rowsv : Value) (p1_lv : Value) {r : Bool} (hF : S_impl_IsOrder F p0_g_Size p0_g_Rows p1_l = some r) (w0 : World) (h0 : RdRow w0 p0_g_Rowsv (List.map (int i64) p0_g_Rows)) (h1 : RdRow w0 p1_lv (List.map (int i64) p1_l)) :
    Calls Try.prog 53 [(Value.agg #[(int i64 p0_g_Size), p0_g_Rowsv]), p1_lv].toArray w0 (retPost fun v w' => v = (Value.bool r) ∧ Mem Nob w0 w' []) := by
 have hM : Mem Nob w0 w0 [(false, rd p0_g_Rowsv (List.map (int i64) p0_g_Rows)), (false, rd p1_lv (List.map (int i64) p1_l))] := (Mem.rcons (Mem.rcons (Mem.nil w0) h1 (by simp)) h0 (by simp))
 refine enter2 Try.func53 rfl rfl rfl fun Q a hQr hQn hQp hS => ?_
 have hS : Sl 15 [(0, (Value.agg #[(int i64 p0_g_Size), p0_g_Rowsv])), (1, p1_lv)] a := hS
 unfold S_impl_IsOrder at hF
 refine wp_seq_k fun K1 hK1 => ?_
 refine wp_region_lit ?_
 obtain ⟨b3, w, hr, hM⟩ := hM.boxE (ρ := a.eval) (dst := some 2) (ty := _) (pos := _) (af := _) (gd := _) (x := .tmp 0) (T := 28) [(int i64 p0_g_Size), p0_g_Rowsv] (hS.ev rfl) rfl
 refine st_val hS rfl rfl (by decide) hr fun a hS => ?_
 refine st_val hS rfl rfl (by decide) (rv_assign (hS.ev rfl)) fun a hS => ?_
 refine wpList_nil ?_
 refine hK1 _ _ ?_
 refine wp_seq_k fun K4 hK4 => ?_
 have hJ1 : ∀ (p6 : Bool) (a : Act) (w : World), Sl 15 [(4, (Value.bool p6))] a → Mem Nob w0 w [] → S_impl_IsOrder_j1 F p6 = some r → K4 a w := by
  intro p6 a w hS hM hF
  unfold S_impl_IsOrder_j1 at hF
  refine hK4 _ _ ?_
  refine wp_ret ?_
  cases hF
  exact hQr _ _ (r_1 hS rfl rfl ⟨rfl, hM.pick [] (by decide) rfl⟩)
 refine wp_region_lit ?_
 refine st_val hS rfl rfl (by decide) (rv_load_agg (hS.ev rfl) ty_ag_28 (hM.get 0 rfl) ty_sz_28) fun a hS => ?_
 refine st_val hS rfl rfl (by decide) (rv_move (hS.ev rfl)) fun a hS => ?_
 obtain ⟨r7, hr, hF⟩ := bind_some hF
 refine st_wp hS rfl (wp_call hS rfl rfl (by decide) fn_ok_107 rfl (c_impl_areVertices F p0_g_Size p0_g_Rows p1_l p0_g_Rowsv p1_lv hr _ (hM.get 1 rfl) (hM.get 2 rfl)) fun v w a hK hS => ?_)
 obtain ⟨rfl, hN⟩ := hK
 have hM := hM.fra hN.fr
 refine st_val hS rfl rfl (by decide) (rv_move (hS.ev rfl)) fun a hS => ?_
 rcases ite_some hF with ⟨hc, hF⟩ | ⟨hc, hF⟩
 ·have hS := hS.setb (t := 8) rfl hc
  refine st_val hS rfl rfl (by decide) (rv_move (hS.ev rfl)) fun a hS => ?_
  refine st_val hS rfl rfl (by decide) (rv_len_rowM Try.underlying22 (hS.ev rfl) (hM.get 2 rfl)) fun a hS => ?_
  refine st_val hS rfl rfl (by decide) (rv_fieldAddr ty_fd_28_0 (hS.ev rfl)) fun a hS => ?_
  refine st_val hS rfl rfl (by decide) (rv_load_bx (hS.ev rfl) ty_ag_3 (hM.get 0 rfl) rfl) fun a hS => ?_
  refine st_val hS rfl rfl (by decide) (rv_eql (hS.ev rfl) (hS.ev rfl)) fun a hS => ?_
  refine st_val hS rfl rfl (by decide) (rv_pick_t (hS.ev rfl) (hS.ev rfl)) fun a hS => ?_
  refine st_val hS rfl rfl (by decide) (rv_assign (hS.ev rfl)) fun a hS => ?_
  refine wpList_nil ?_
  exact hJ1 ((p1_l.length : Int) == p0_g_Size) _ _ (hS.sub (sub_cons rfl sub_nil)) (hM.pick [] (by decide) rfl) hF
 ·have hS := hS.setb (t := 8) rfl hc
  refine st_skip hS rfl rfl (by decide) fun a hS => ?_
  refine st_skip hS rfl rfl (by decide) fun a hS => ?_
  refine st_skip hS rfl rfl (by decide) fun a hS => ?_
  refine st_skip hS rfl rfl (by decide) fun a hS => ?_
  refine st_skip hS rfl rfl (by decide) fun a hS => ?_
  refine st_val hS rfl rfl (by decide) (rv_pick_f (hS.ev rfl) (hS.ev rfl)) fun a hS => ?_
  refine st_val hS rfl rfl (by decide) (rv_assign (hS.ev rfl)) fun a hS => ?_
  refine wpList_nil ?_
  exact hJ1 false _ _ (hS.sub (sub_cons rfl sub_nil)) (hM.pick [] (by decide) rfl) hF


theorem c_impl_IsLexOrder (F : Nat) (p0_g_Size : Int) (p0_g_Rows : List Int) (p1_l : List Int) (p0_g_Rowsv : Value) (p1_lv : Value) {r : Bool} (hF : S_impl_IsLexOrder F p0_g_Size p0_g_Rows p1_l = some r) (w0 : World) (h0 : RdRow w0 p0_g_Rowsv (List.map (int i64) p0_g_Rows)) (h1 : RdRow w0 p1_lv (List.map (int i64) p1_l)) :
    Calls Try.prog 54 [(Value.agg #[(int i64 p0_g_Size), p0_g_Rowsv]), p1_lv].toArray w0 (retPost fun v w' => v = (Value.bool r) ∧ Mem Nob w0 w' []) := by
 have hM : Mem Nob w0 w0 [(false, rd p0_g_Rowsv (List.map (int i64) p0_g_Rows)), (false, rd p1_lv (List.map (int i64) p1_l))] := (Mem.rcons (Mem.rcons (Mem.nil w0) h1 (by simp)) h0 (by simp))
 refine enter2 Try.func54 rfl rfl rfl fun Q a hQr hQn hQp hS => ?_
 have hS : Sl 44 [(0, (Value.agg #[(int i64 p0_g_Size), p0_g_Rowsv])), (1, p1_lv)] a := hS
 unfold S_impl_IsLexOrder at hF
 refine wp_seq_k fun K1 hK1 => ?_
 refine wp_region_lit ?_
 obtain ⟨b3, w, hr, hM⟩ := hM.boxE (ρ := a.eval) (dst := some 2) (ty := _) (pos := _) (af := _) (gd := _) (x := .tmp 0) (T := 28) [(int i64 p0_g_Size), p0_g_Rowsv] (hS.ev rfl) rfl
 refine st_val hS rfl rfl (by decide) hr fun a hS => ?_
 refine st_val hS rfl rfl (by decide) (rv_assign (hS.ev rfl)) fun a hS => ?_
 refine wpList_nil ?_
 refine hK1 _ _ ?_
 refine wp_seq_k fun K4 hK4 => ?_
 refine wp_seq_k fun K9 hK9 => ?_
 refine wp_region_lit ?_
 refine st_val hS rfl rfl (by decide) (rv_load_agg (hS.ev rfl) ty_ag_28 (hM.get 0 rfl) ty_sz_28) fun a hS => ?_
 refine st_val hS rfl rfl (by decide) (rv_move (hS.ev rfl)) fun a hS => ?_
 obtain ⟨r11, hr, hF⟩ := bind_some hF
 refine st_wp hS rfl (wp_call hS rfl rfl (by decide) fn_ok_53 rfl (c_impl_IsOrder F p0_g_Size p0_g_Rows p1_l p0_g_Rowsv p1_lv hr _ (hM.get 1 rfl) (hM.get 2 rfl)) fun v w a hK hS => ?_)
 obtain ⟨rfl, hN⟩ := hK
 have hM := hM.fra hN.fr
 refine st_val hS rfl rfl (by decide) (rv_not (hS.ev rfl)) fun a hS => ?_
 refine wpList_nil ?_
 refine hK9 _ _ ?_
 rcases ite_some hF with ⟨hc, hF⟩ | ⟨hc, hF⟩
 ·refine cond_t hS rfl hc ?_
  refine wp_seq_k fun K12 hK12 => ?_
  refine wp_region_lit ?_
  refine st_val hS rfl rfl (by decide) (rv_assign (hS.ev rfl)) fun a hS => ?_
  refine wpList_nil ?_
  refine hK12 _ _ ?_
  have hS : Sl 44 [(4, (Value.bool false))] a := hS.sub (sub_cons rfl sub_nil)
  have hM := hM.pick [] (by decide) rfl
  refine wp_ret ?_
  cases hF
  exact hQr _ _ (r_1 hS rfl rfl ⟨rfl, hM.pick [] (by decide) rfl⟩)
 ·refine cond_f hS rfl hc ?_
  refine wp_skip ?_
  refine hK4 _ _ ?_
  refine wp_seq_k fun K13 hK13 => ?_
  have hJ1 : ∀ (a : Act) (w : World), Sl 44 [] a → Mem Nob w0 w [] → S_impl_IsLexOrder_j1 F = some r → K13 a w := by
   intro a w hS hM hF
   unfold S_impl_IsLexOrder_j1 at hF
   refine hK13 _ _ ?_
   refine wp_seq_k fun K304 hK304 => ?_
   refine wp_region_lit ?_
   refine st_val hS rfl rfl (by decide) (rv_assign (hS.ev rfl)) fun a hS => ?_
   refine wpList_nil ?_
   refine hK304 _ _ ?_
   refine wp_ret ?_
   cases hF
   exact hQr _ _ (r_1 hS rfl rfl ⟨rfl, hM.pick [] (by decide) rfl⟩)
  refine wp_seq_k fun K305 hK305 => ?_
  refine wp_region_lit ?_
  refine st_val hS rfl rfl (by decide) (rv_assign (hS.ev rfl)) fun a hS => ?_
  refine wpList_nil ?_
  refine hK305 _ _ ?_
  refine wp_block ?_
  obtain ⟨lb2, hl2, hF2⟩ := bind_some hF
  refine wp_loop_sh (fun s => S_impl_IsLexOrder_l2 F p0_g_Size p0_g_Rows p1_l s) (fun s a w => Sl 44 [(1, p1_lv), (2, (fdp b3 0)), (5, (int i64 s))] a ∧ Mem Nob w0 w [(false, rd p1_lv (List.map (int i64) p1_l)), (true, bx b3 28 [(int i64 p0_g_Size), p0_g_Rowsv]), (false, rd p0_g_Rowsv (List.map (int i64) p0_g_Rows))]) hl2 ⟨(hS.sub (sub_cons rfl (sub_cons rfl (sub_cons rfl sub_nil)))), (hM.pick [2, 0, 1] (by decide) rfl)⟩ ?_
  rintro K2 x306 a w res2 ⟨hS, hM⟩ hF hN2 hX2
  have hF : S_impl_IsLexOrder_l2 F p0_g_Size p0_g_Rows p1_l x306 = some res2 := hF
  have hS : Sl 44 [(1, p1_lv), (2, (fdp b3 0)), (5, (int i64 x306))] a := hS
  have hM : Mem Nob w0 w [(false, rd p1_lv (List.map (int i64) p1_l)), (true, bx b3 28 [(int i64 p0_g_Size), p0_g_Rowsv]), (false, rd p0_g_Rowsv (List.map (int i64) p0_g_Rows))] := hM
  unfold S_impl_IsLexOrder_l2 at hF
  refine wp_seq_k fun K451 hK451 => ?_
  refine wp_seq_k fun K453 hK453 => ?_
  refine wp_region_lit ?_
  refine st_val hS rfl rfl (by decide) (rv_move (hS.ev rfl)) fun a hS => ?_
  refine st_val hS rfl rfl (by decide) (rv_move (hS.ev rfl)) fun a hS => ?_
  refine st_val hS rfl rfl (by decide) (rv_len_rowM Try.underlying22 (hS.ev rfl) (hM.get 0 rfl)) fun a hS => ?_
  refine st_val hS rfl rfl (by decide) (rv_lss (hS.ev rfl) (hS.ev rfl)) fun a hS => ?_
  refine wpList_nil ?_
  refine hK453 _ _ ?_
  rcases ite_some hF with ⟨hc, hF⟩ | ⟨hc, hF⟩
  ·refine cond_t hS rfl hc ?_
   refine wp_skip ?_
   refine hK451 _ _ ?_
   refine wp_seq_k fun K454 hK454 => ?_
   have hJ3 : ∀ (a : Act) (w : World), Sl 44 [(1, p1_lv), (2, (fdp b3 0)), (5, (int i64 x306))] a → Mem Nob w0 w [(false, rd p1_lv (List.map (int i64) p1_l)), (true, bx b3 28 [(int i64 p0_g_Size), p0_g_Rowsv]), (false, rd p0_g_Rowsv (List.map (int i64) p0_g_Rows))] → S_impl_IsLexOrder_j3 F x306 = some res2 → K454 a w := by
    intro a w hS hM hF
    unfold S_impl_IsLexOrder_j3 at hF
    refine hK454 _ _ ?_
    refine wp_region_lit ?_
    refine st_val hS rfl rfl (by decide) (rv_move (hS.ev rfl)) fun a hS => ?_
    refine st_val hS rfl rfl (by decide) (rv_add (hS.ev rfl) (hS.ev rfl)) fun a hS => ?_
    refine st_val hS rfl rfl (by decide) (rv_assign (hS.ev rfl)) fun a hS => ?_
    refine wpList_nil ?_
    cases hF
    exact hN2 _ _ _ rfl ⟨(hS.sub (sub_cons rfl (sub_cons rfl (sub_cons rfl sub_nil)))), (hM.pick [0, 1, 2] (by decide) rfl)⟩
   refine wp_block ?_
   refine wp_seq_k fun K525 hK525 => ?_
   refine wp_region_lit ?_
   refine st_val hS rfl rfl (by decide) (rv_move (hS.ev rfl)) fun a hS => ?_
   refine st_val hS rfl rfl (by decide) (rv_move (hS.ev rfl)) fun a hS => ?_
   refine st_val hS rfl rfl (by decide) (rv_add (hS.ev rfl) (hS.ev rfl)) fun a hS => ?_
   obtain ⟨_, hx, hF⟩ := bind_some hF
   have hj527 := slO_some hx
   refine st_val hS rfl rfl (by decide) (rv_slL Try.underlying22 ty_el_3 (hS.ev rfl) (hS.ev rfl) (hM.get 0 rfl) hj527.1 (map_le hj527.2)) fun a hS => ?_
   refine st_val hS rfl rfl (by decide) (rv_len_rowM Try.underlying22 (hS.ev rfl) (rd_slLm (hM.get 0 rfl) hj527.2)) fun a hS => ?_
   refine st_val hS rfl rfl (by decide) (rv_move (hS.ev rfl)) fun a hS => ?_
   refine wpList_nil ?_
   refine hK525 _ _ ?_
   refine wp_block ?_
   obtain ⟨lb4, hl4, hF4⟩ := bind_some hF
   refine wp_loop_sh (fun s => S_impl_IsLexOrder_l4 F p0_g_Size p0_g_Rows p1_l x306 s) (fun s a w => Sl 44 [(1, p1_lv), (2, (fdp b3 0)), (5, (int i64 x306)), (21, (slL p1_lv ((i64.wrap (x306 + 1)).toNat))), (22, (int i64 ((p1_l.drop ((i64.wrap (x306 + 1)).toNat)).length : Int))), (23, (int i64 s))] a ∧ Mem Nob w0 w [(false, rd p1_lv (List.map (int i64) p1_l)), (true, bx b3 28 [(int i64 p0_g_Size), p0_g_Rowsv]), (false, rd p0_g_Rowsv (List.map (int i64) p0_g_Rows))]) hl4 ⟨(hS.sub (sub_cons rfl (sub_cons rfl (sub_cons rfl (sub_cons rfl (sub_cons rfl (sub_cons rfl sub_nil))))))), (hM.pick [0, 1, 2] (by decide) rfl)⟩ ?_
   rintro K4 x528 a w res4 ⟨hS, hM⟩ hF hN4 hX4
   have hF : S_impl_IsLexOrder_l4 F p0_g_Size p0_g_Rows p1_l x306 x528 = some res4 := hF
   have hS : Sl 44 [(1, p1_lv), (2, (fdp b3 0)), (5, (int i64 x306)), (21, (slL p1_lv ((i64.wrap (x306 + 1)).toNat))), (22, (int i64 ((p1_l.drop ((i64.wrap (x306 + 1)).toNat)).length : Int))), (23, (int i64 x528))] a := hS
   have hM : Mem Nob w0 w [(false, rd p1_lv (List.map (int i64) p1_l)), (true, bx b3 28 [(int i64 p0_g_Size), p0_g_Rowsv]), (false, rd p0_g_Rowsv (List.map (int i64) p0_g_Rows))] := hM
   unfold S_impl_IsLexOrder_l4 at hF
   refine wp_seq_k fun K562 hK562 => ?_
   refine wp_region_lit ?_
   refine st_val hS rfl rfl (by decide) (rv_lss (hS.ev rfl) (hS.ev rfl)) fun a hS => ?_
   refine wpList_nil ?_
   refine hK562 _ _ ?_
   refine wp_seq_k fun K563 hK563 => ?_
   rcases ite_some hF with ⟨hc, hF⟩ | ⟨hc, hF⟩
   ·refine cond_t hS rfl hc ?_
    refine wp_skip ?_
    refine hK563 _ _ ?_
    refine wp_seq_k fun K564 hK564 => ?_
    refine wp_block ?_
    refine wp_seq_k fun K580 hK580 => ?_
    refine wp_region_lit ?_
    obtain ⟨x582, hx, hF⟩ := bind_some hF
    obtain ⟨hi0, hi1, hex582⟩ := idxL_some hx
    refine st_val hS rfl rfl (by decide) (rv_indexAddr Try.underlying22 ty_el_3 (hS.ev rfl) (hS.ev rfl) (rd_slLm (hM.get 0 rfl) hj527.2) hi0 (map_len hi1)) fun a hS => ?_
    refine st_val hS rfl rfl (by decide) (rv_load_el (hS.ev rfl) ty_ag_3 (rd_slLm (hM.get 0 rfl) hj527.2) (mget hex582)) fun a hS => ?_
    refine st_val hS rfl rfl (by decide) (rv_assign (hS.ev rfl)) fun a hS => ?_
    refine wpList_nil ?_
    refine hK580 _ _ ?_
    refine wp_seq_k fun K583 hK583 => ?_
    refine an_startB 16 Nob ty_mixed (by kernel_rfl) fun w hf => ?_
    have hM := hM.fra hf
    have hB := hM
    have hM := hB.reg0
    refine tkB hS 0 1 (by kernel_rfl) rfl rfl rfl hQp rfl (fun w' hC' => (rv_load_agg (hS.ev rfl) ty_ag_28 ((hB.fra hC').get 1 rfl) ty_sz_28)) hM.fr fun a hS => ?_
    refine tkB hS 1 3 (by kernel_rfl) rfl rfl rfl hQp rfl (fun w' hC' => (rv_move (hS.ev rfl))) hM.fr fun a hS => ?_
    refine tkB hS 2 7 (by kernel_rfl) rfl rfl rfl hQp rfl (fun w' hC' => (rv_move (hS.ev rfl))) hM.fr fun a hS => ?_
    refine tkB hS 3 15 (by kernel_rfl) rfl rfl rfl hQp rfl (fun w' hC' => (rv_move (hS.ev rfl))) hM.fr fun a hS => ?_
    obtain ⟨_, hx, hF⟩ := bind_some hF
    have hj589 := slO_some hx
    refine tkB hS 4 31 (by kernel_rfl) rfl rfl rfl hQp rfl (fun w' hC' => (rv_slH Try.underlying22 ty_el_3 (hS.ev rfl) (hS.ev rfl) (hM.get 0 rfl) hj589.1 (map_le hj589.2))) hM.fr fun a hS => ?_
    refine tkB hS 6 95 (by kernel_rfl) rfl rfl rfl hQp rfl (fun w' hC' => (rv_load_agg (hS.ev rfl) ty_ag_28 ((hB.fra hC').get 1 rfl) ty_sz_28)) hM.fr fun a hS => ?_
    refine tkB hS 7 223 (by kernel_rfl) rfl rfl rfl hQp rfl (fun w' hC' => (rv_move (hS.ev rfl))) hM.fr fun a hS => ?_
    refine tkB hS 8 479 (by kernel_rfl) rfl rfl rfl hQp rfl (fun w' hC' => (rv_move (hS.ev rfl))) hM.fr fun a hS => ?_
    obtain ⟨x590, hx, hF⟩ := bind_some hF
    obtain ⟨hi0, hi1, hex590⟩ := idxL_some hx
    refine tkB hS 9 991 (by kernel_rfl) rfl rfl rfl hQp rfl (fun w' hC' => (rv_indexAddr Try.underlying22 ty_el_3 (hS.ev rfl) (hS.ev rfl) (hM.get 0 rfl) hi0 (map_len hi1))) hM.fr fun a hS => ?_
    refine tkB hS 10 2015 (by kernel_rfl) rfl rfl rfl hQp rfl (fun w' hC' => (rv_load_el (hS.ev rfl) ty_ag_3 ((hB.fra hC').get 0 rfl) (mget hex590))) hM.fr fun a hS => ?_
    refine tkB hS 11 4063 (by kernel_rfl) rfl rfl rfl hQp rfl (fun w' hC' => (rv_move (hS.ev rfl))) hM.fr fun a hS => ?_
    refine tkB hS 12 8159 (by kernel_rfl) rfl rfl rfl hQp rfl (fun w' hC' => (rv_move (hS.ev rfl))) hM.fr fun a hS => ?_
    obtain ⟨_, hx, hF⟩ := bind_some hF
    have hj591 := slO_some hx
    refine tkB hS 13 16351 (by kernel_rfl) rfl rfl rfl hQp rfl (fun w' hC' => (rv_slH Try.underlying22 ty_el_3 (hS.ev rfl) (hS.ev rfl) (hM.get 0 rfl) hj591.1 (map_le hj591.2))) hM.fr fun a hS => ?_
    obtain ⟨r592, hr, hF⟩ := bind_some hF
    refine an_oneB hS (i := 5) 16383 (by kernel_rfl) rfl (by kernel_rfl) rfl ?_
    refine wp_call hS rfl rfl (by decide) fn_ok_98 rfl (c_impl_label F p0_g_Size p0_g_Rows x582 (p1_l.take (x306.toNat)) p0_g_Rowsv (slH p1_lv (x306.toNat)) hr _ (hM.get 2 rfl) (rd_slHm (hM.get 0 rfl) hj589.2)) fun v w a hK hS => ?_
    obtain ⟨rfl, hN⟩ := hK
    have hM := hM.fra hN.fr
    refine ⟨hM.fr, ?_⟩
    obtain ⟨r593, hr, hF⟩ := bind_some hF
    refine an_oneB hS (i := 14) 32767 (by kernel_rfl) rfl (by kernel_rfl) rfl ?_
    refine wp_call hS rfl rfl (by decide) fn_ok_98 rfl (c_impl_label F p0_g_Size p0_g_Rows x590 (p1_l.take (x306.toNat)) p0_g_Rowsv (slH p1_lv (x306.toNat)) hr _ (hM.get 2 rfl) (rd_slHm (hM.get 0 rfl) hj591.2)) fun v w a hK hS => ?_
    obtain ⟨rfl, hN⟩ := hK
    have hM := hM.fra hN.fr
    refine ⟨hM.fr, ?_⟩
    refine tkB hS 15 65535 (by kernel_rfl) rfl rfl rfl hQp rfl (fun w' hC' => (rv_gtr (hS.ev rfl) (hS.ev rfl))) hM.fr fun a hS => ?_
    refine an_done (by kernel_rfl) ?_
    have hN := hM.pick [] (by decide) rfl
    have hM := Mem.callo0 hB hN rfl
    refine hK583 _ _ ?_
    have hS : Sl 44 [(1, p1_lv), (2, (fdp b3 0)), (5, (int i64 x306)), (21, (slL p1_lv ((i64.wrap (x306 + 1)).toNat))), (22, (int i64 ((p1_l.drop ((i64.wrap (x306 + 1)).toNat)).length : Int))), (23, (int i64 x528)), (42, (Value.bool (decide (r593 < r592))))] a := hS.sub (sub_cons rfl (sub_cons rfl (sub_cons rfl (sub_cons rfl (sub_cons rfl (sub_cons rfl (sub_cons rfl sub_nil)))))))
    rcases ite_some hF with ⟨hc, hF⟩ | ⟨hc, hF⟩
    ·refine cond_t hS rfl hc ?_
     refine wp_seq_k fun K594 hK594 => ?_
     refine wp_region_lit ?_
     refine st_val hS rfl rfl (by decide) (rv_assign (hS.ev rfl)) fun a hS => ?_
     refine wpList_nil ?_
     refine hK594 _ _ ?_
     have hS : Sl 44 [(4, (Value.bool false))] a := hS.sub (sub_cons rfl sub_nil)
     have hM := hM.pick [] (by decide) rfl
     refine wp_ret ?_
     cases hF
     have e := hX4 _ rfl
     subst e
     have hF := hF4
     cases hF
     have e := hX2 _ rfl
     subst e
     have hF := hF2
     cases hF
     exact hQr _ _ (r_1 hS rfl rfl ⟨rfl, hM.pick [] (by decide) rfl⟩)
    ·refine cond_f hS rfl hc ?_
     refine wp_skip ?_
     refine hK564 _ _ ?_
     refine wp_region_lit ?_
     refine st_val hS rfl rfl (by decide) (rv_add (hS.ev rfl) (hS.ev rfl)) fun a hS => ?_
     refine st_val hS rfl rfl (by decide) (rv_move (hS.ev rfl)) fun a hS => ?_
     refine wpList_nil ?_
     cases hF
     exact hN4 _ _ _ rfl ⟨(hS.sub (sub_cons rfl (sub_cons rfl (sub_cons rfl (sub_cons rfl (sub_cons rfl (sub_cons rfl sub_nil))))))), (hM.pick [0, 1, 2] (by decide) rfl)⟩
   ·refine cond_f hS rfl hc ?_
    refine wp_exit ?_
    cases hF
    exact hJ3 _ _ (hS.sub (sub_cons rfl (sub_cons rfl (sub_cons rfl sub_nil)))) (hM.pick [0, 1, 2] (by decide) rfl) (by have e := hX4 _ rfl; subst e; exact hF4)
  ·refine cond_f hS rfl hc ?_
   refine wp_exit ?_
   cases hF
   exact hJ1 _ _ (hS.sub sub_nil) (hM.pick [] (by decide) rfl) (by have e := hX2 _ rfl; subst e; exact hF2)


theorem c_impl_neighbors (F : Nat) (p0_g_Size : Int) (p0_g_Rows : List Int) (p1_set : Int) (p0_g_Rowsv : Value) {r : Int} (hF : S_impl_neighbors F p0_g_Size p0_g_Rows p1_set = some r) (w0 : World) (h0 : RdRow w0 p0_g_Rowsv (List.map (int i64) p0_g_Rows)) :
    Calls Try.prog 109 [(Value.agg #[(int i64 p0_g_Size), p0_g_Rowsv]), (int i64 p1_set)].toArray w0 (retPost fun v w' => v = (int i64 r) ∧ Mem Nob w0 w' []) := by
 have hM : Mem Nob w0 w0 [(false, rd p0_g_Rowsv (List.map (int i64) p0_g_Rows))] := (Mem.rcons (Mem.nil w0) h0 (by simp))
 refine enter2 Try.func109 rfl rfl rfl fun Q a hQr hQn hQp hS => ?_
 have hS : Sl 24 [(0, (Value.agg #[(int i64 p0_g_Size), p0_g_Rowsv])), (1, (int i64 p1_set))] a := hS
 unfold S_impl_neighbors at hF
 refine wp_seq_k fun K1 hK1 => ?_
 refine wp_region_lit ?_
 obtain ⟨b3, w, hr, hM⟩ := hM.boxE (ρ := a.eval) (dst := some 2) (ty := _) (pos := _) (af := _) (gd := _) (x := .tmp 0) (T := 28) [(int i64 p0_g_Size), p0_g_Rowsv] (hS.ev rfl) rfl
 refine st_val hS rfl rfl (by decide) hr fun a hS => ?_
 refine st_val hS rfl rfl (by decide) (rv_assign (hS.ev rfl)) fun a hS => ?_
 refine wpList_nil ?_
 refine hK1 _ _ ?_
 refine wp_seq_k fun K4 hK4 => ?_
 refine wp_region_lit ?_
 refine st_val hS rfl rfl (by decide) (rv_assign (hS.ev rfl)) fun a hS => ?_
 refine wpList_nil ?_
 refine hK4 _ _ ?_
 refine wp_seq_k fun K5 hK5 => ?_
 have hJ1 : ∀ (x35 : Int) (a : Act) (w : World), Sl 24 [(5, (int i64 x35))] a → Mem Nob w0 w [] → S_impl_neighbors_j1 F x35 = some r → K5 a w := by
  intro x35 a w hS hM hF
  unfold S_impl_neighbors_j1 at hF
  refine hK5 _ _ ?_
  refine wp_seq_k fun K36 hK36 => ?_
  refine wp_region_lit ?_
  refine st_val hS rfl rfl (by decide) (rv_move (hS.ev rfl)) fun a hS => ?_
  refine st_val hS rfl rfl (by decide) (rv_assign (hS.ev rfl)) fun a hS => ?_
  refine wpList_nil ?_
  refine hK36 _ _ ?_
  refine wp_ret ?_
  cases hF
  exact hQr _ _ (r_1 hS rfl rfl ⟨rfl, hM.pick [] (by decide) rfl⟩)
 refine wp_seq_k fun K37 hK37 => ?_
 refine wp_region_lit ?_
 refine st_val hS rfl rfl (by decide) (rv_move (hS.ev rfl)) fun a hS => ?_
 obtain ⟨r40, hr, hF⟩ := bind_some hF
 refine st_wp hS rfl (wp_call hS rfl rfl (by decide) fn_ok_105 rfl (c_impl_ListOf F p1_set hr _) fun v41 w a hK hS => ?_)
 have hN := hK
 have hM := hM.add hN rfl
 refine st_val hS rfl rfl (by decide) (rv_len_rowM Try.underlying22 (hS.ev rfl) (rd_of_ow (hM.get 0 rfl))) fun a hS => ?_
 refine st_val hS rfl rfl (by decide) (rv_move (hS.ev rfl)) fun a hS => ?_
 refine wpList_nil ?_
 refine hK37 _ _ ?_
 refine wp_block ?_
 obtain ⟨lb2, hl2, hF2⟩ := bind_some hF
 refine wp_loop_sh (fun s => S_impl_neighbors_l2 F p0_g_Rows r40 s.1 s.2) (fun s a w => Sl 24 [(2, (fdp b3 0)), (5, (int i64 s.1)), (9, v41), (10, (int i64 (r40.length : Int))), (11, (int i64 s.2))] a ∧ Mem Nob w0 w [(true, bx b3 28 [(int i64 p0_g_Size), p0_g_Rowsv]), (false, rd p0_g_Rowsv (List.map (int i64) p0_g_Rows)), (true, ow 3 v41 (List.map (int i64) r40))]) hl2 ⟨(hS.sub (sub_cons rfl (sub_cons rfl (sub_cons rfl (sub_cons rfl (sub_cons rfl sub_nil)))))), (hM.pick [1, 2, 0] (by decide) rfl)⟩ ?_
 rintro K2 ⟨x42, x43⟩ a w res2 ⟨hS, hM⟩ hF hN2 hX2
 have hF : S_impl_neighbors_l2 F p0_g_Rows r40 x42 x43 = some res2 := hF
 have hS : Sl 24 [(2, (fdp b3 0)), (5, (int i64 x42)), (9, v41), (10, (int i64 (r40.length : Int))), (11, (int i64 x43))] a := hS
 have hM : Mem Nob w0 w [(true, bx b3 28 [(int i64 p0_g_Size), p0_g_Rowsv]), (false, rd p0_g_Rowsv (List.map (int i64) p0_g_Rows)), (true, ow 3 v41 (List.map (int i64) r40))] := hM
 unfold S_impl_neighbors_l2 at hF
 refine wp_seq_k fun K55 hK55 => ?_
 refine wp_region_lit ?_
 refine st_val hS rfl rfl (by decide) (rv_lss (hS.ev rfl) (hS.ev rfl)) fun a hS => ?_
 refine wpList_nil ?_
 refine hK55 _ _ ?_
 refine wp_seq_k fun K56 hK56 => ?_
 rcases ite_some hF with ⟨hc, hF⟩ | ⟨hc, hF⟩
 ·refine cond_t hS rfl hc ?_
  refine wp_skip ?_
  refine hK56 _ _ ?_
  refine wp_seq_k fun K57 hK57 => ?_
  refine wp_block ?_
  refine wp_seq_k fun K62 hK62 => ?_
  refine wp_region_lit ?_
  obtain ⟨x64, hx, hF⟩ := bind_some hF
  obtain ⟨hi0, hi1, hex64⟩ := idxL_some hx
  refine st_val hS rfl rfl (by decide) (rv_indexAddr Try.underlying22 ty_el_3 (hS.ev rfl) (hS.ev rfl) (rd_of_ow (hM.get 2 rfl)) hi0 (map_len hi1)) fun a hS => ?_
  refine st_val hS rfl rfl (by decide) (rv_load_el (hS.ev rfl) ty_ag_3 (rd_of_ow (hM.get 2 rfl)) (mget hex64)) fun a hS => ?_
  refine st_val hS rfl rfl (by decide) (rv_assign (hS.ev rfl)) fun a hS => ?_
  refine wpList_nil ?_
  refine hK62 _ _ ?_
  refine wp_region_lit ?_
  refine st_val hS rfl rfl (by decide) (rv_move (hS.ev rfl)) fun a hS => ?_
  refine st_val hS rfl rfl (by decide) (rv_fieldAddr ty_fd_28_1 (hS.ev rfl)) fun a hS => ?_
  refine st_val hS rfl rfl (by decide) (rv_load_bx (hS.ev rfl) ty_ag_22 (hM.get 0 rfl) rfl) fun a hS => ?_
  refine st_val hS rfl rfl (by decide) (rv_move (hS.ev rfl)) fun a hS => ?_
  obtain ⟨x65, hx, hF⟩ := bind_some hF
  obtain ⟨hi0, hi1, hex65⟩ := idxL_some hx
  refine st_val hS rfl rfl (by decide) (rv_indexAddr Try.underlying22 ty_el_3 (hS.ev rfl) (hS.ev rfl) (hM.get 1 rfl) hi0 (map_len hi1)) fun a hS => ?_
  refine st_val hS rfl rfl (by decide) (rv_load_el (hS.ev rfl) ty_ag_3 (hM.get 1 rfl) (mget hex65)) fun a hS => ?_
  refine st_val hS rfl rfl (by decide) (rv_or (hS.ev rfl) (hS.ev rfl)) fun a hS => ?_
  refine st_val hS rfl rfl (by decide) (rv_assign (hS.ev rfl)) fun a hS => ?_
  refine wpList_nil ?_
  refine hK57 _ _ ?_
  have hS : Sl 24 [(2, (fdp b3 0)), (5, (int i64 (bOr x42 x65))), (9, v41), (10, (int i64 (r40.length : Int))), (11, (int i64 x43))] a := hS.sub (sub_cons rfl (sub_cons rfl (sub_cons rfl (sub_cons rfl (sub_cons rfl sub_nil)))))
  refine wp_region_lit ?_
  refine st_val hS rfl rfl (by decide) (rv_add (hS.ev rfl) (hS.ev rfl)) fun a hS => ?_
  refine st_val hS rfl rfl (by decide) (rv_move (hS.ev rfl)) fun a hS => ?_
  refine wpList_nil ?_
  cases hF
  exact hN2 _ _ _ rfl ⟨(hS.sub (sub_cons rfl (sub_cons rfl (sub_cons rfl (sub_cons rfl (sub_cons rfl sub_nil)))))), (hM.pick [0, 1, 2] (by decide) rfl)⟩
 ·refine cond_f hS rfl hc ?_
  refine wp_exit ?_
  cases hF
  exact hJ1 x42 _ _ (hS.sub (sub_cons rfl sub_nil)) (hM.pick [] (by decide) rfl) (by have e := hX2 _ rfl; subst e; exact hF2)


end Go.Proofs.Ytilfniehellmmaa
