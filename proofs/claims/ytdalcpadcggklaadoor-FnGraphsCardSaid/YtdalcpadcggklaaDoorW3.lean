/- Proved here: that each Go function does what its shallow function says -/
import Derived.Test.YtdalcpadcggklaaDoorSh
import Derived.Test.YtdalcpadcggklaaDoorTy
import Derived.Test.YtdalcpadcggklaaDoorK13
import Derived.Test.YtdalcpadcggklaaDoorKS
import Derived.Test.YtdalcpadcggklaaDoorW0
import Derived.Test.YtdalcpadcggklaaDoorW1
import Derived.Test.YtdalcpadcggklaaDoorW2
namespace Go.Proofs.YtdalcpadcggklaaDoor
open Go Go.RowKit
set_option linter.unusedVariables false
set_option linter.unusedSimpArgs false
set_option maxRecDepth 100000
set_option maxHeartbeats 40000000

open Go.IntKind (i64)
open Go.Value (int)
theorem c_spec_l1Text (F : Nat) (p0_c_b : List Int) (p0_c_i : Int) (p0_c_h : Int) (p1_most : Int) (p0_c_bv : Value) (p0_cb : Nat) {r : (List UInt8) × Int × Int} (hF : S_spec_l1Text F p0_c_b p0_c_i p0_c_h p1_most = some r) (w0 : World) (hM : Mem (feet [(true, bx p0_cb 84 [p0_c_bv, (int i64 p0_c_i), (int i64 p0_c_h)])]) w0 w0 [(true, bx p0_cb 84 [p0_c_bv, (int i64 p0_c_i), (int i64 p0_c_h)]), (false, rd p0_c_bv (List.map (int IntKind.u8) p0_c_b))]) :
    Calls Tryd.prog 95 [(fdp p0_cb 0), (int i64 p1_most)].toArray w0 (retPost fun v w' => v = (Value.string (bs r.1)) ∧ Mem (feet [(true, bx p0_cb 84 [p0_c_bv, (int i64 p0_c_i), (int i64 p0_c_h)])]) w0 w' [(true, bx p0_cb 84 [p0_c_bv, (int i64 r.2.1), (int i64 r.2.2)])]) := by
 have hM := hM.pk [1, 0] (by decide) (pc rfl (pc rfl pn))
 refine enter2 Tryd.func95 rfl rfl rfl fun Q a hQr hQn hQp hS => ?_
 have hS : Sl 38 [(0, (fdp p0_cb 0)), (1, (int i64 p1_most))] a := hS
 unfold S_spec_l1Text at hF
 refine wp_seq_k fun K1 hK1 => ?_
 refine wp_region_lit ?_
 refine st_val hS rfl rfl (by decide) (rv_assign (hS.ev rfl)) fun a hS => ?_
 refine wpList_nil ?_
 refine hK1 _ _ ?_
 refine wp_seq_k fun K2 hK2 => ?_
 refine wp_region_lit ?_
 obtain ⟨v4, w, hr, hM⟩ := Mem.litE (f := (int IntKind.u8)) (dst := some 9) (ty := _) (pos := _) (af := _) (gd := _) (ps := []) ([] : List (Int)) u8_one hM hS Tryd.underlying22 ty_el_5 rfl rfl rfl rfl
 refine st_val hS rfl rfl (by decide) hr fun a hS => ?_
 refine st_val hS rfl rfl (by decide) (rv_assign (hS.ev rfl)) fun a hS => ?_
 refine wpList_nil ?_
 refine hK2 _ _ ?_
 refine wp_seq_k fun K5 hK5 => ?_
 refine wp_region_lit ?_
 refine st_val hS rfl rfl (by decide) (rv_move (hS.ev rfl)) fun a hS => ?_
 obtain ⟨r7, hr, hF⟩ := bind_some hF
 have hM := hM.pk [2, 1, 0] (by decide) (pc rfl (pc rfl (pc rfl pn)))
 have hP := Mem.pre (A := [(true, bx p0_cb 84 [p0_c_bv, (int i64 p0_c_i), (int i64 p0_c_h)])]) (C := [(false, rd p0_c_bv (List.map (int IntKind.u8) p0_c_b))]) (B := [(true, ow 5 v4 (List.map (int IntKind.u8) ([] : List (Int))))]) hM rfl (weaks_cons (weak_self _ _) weaks_nil)
 refine st_wp hS rfl (wp_call hS rfl rfl (by decide) fn_ok_72 rfl (c_spec_l1Below F p0_c_b p0_c_i p0_c_h 4 p0_c_bv p0_cb hr _ hP) fun v w a hK hS => ?_)
 obtain ⟨rfl, hN⟩ := hK
 have hM := Mem.callo (A := [(true, bx p0_cb 84 [p0_c_bv, (int i64 p0_c_i), (int i64 p0_c_h)])]) (B := [(false, rd p0_c_bv (List.map (int IntKind.u8) p0_c_b)), (true, ow 5 v4 (List.map (int IntKind.u8) ([] : List (Int))))]) hM rfl hN rfl
 refine st_val hS rfl rfl (by decide) (rv_assign (hS.ev rfl)) fun a hS => ?_
 refine wpList_nil ?_
 refine hK5 _ _ ?_
 refine wp_seq_k fun K8 hK8 => ?_
 have hJ1 : ∀ (l111 : List Int) (x112 : Int) (x113 : Int) (v110 : Value) (a : Act) (w : World), Sl 38 [(5, v110)] a → Mem (feet [(true, bx p0_cb 84 [p0_c_bv, (int i64 p0_c_i), (int i64 p0_c_h)])]) w0 w [(true, ow 5 v110 (List.map (int IntKind.u8) l111)), (true, bx p0_cb 84 [p0_c_bv, (int i64 x112), (int i64 x113)]), (false, rd p0_c_bv (List.map (int IntKind.u8) p0_c_b))] → S_spec_l1Text_j1 F l111 x112 x113 = some r → K8 a w := by
  intro l111 x112 x113 v110 a w hS hM hF
  unfold S_spec_l1Text_j1 at hF
  refine hK8 _ _ ?_
  refine wp_seq_k fun K114 hK114 => ?_
  refine wp_region_lit ?_
  refine st_val hS rfl rfl (by decide) (rv_move (hS.ev rfl)) fun a hS => ?_
  refine st_val hS rfl rfl (by decide) (rv_bstr Tryd.underlying22 Tryd.underlying5 Tryd.underlying9 (hS.ev rfl) (rd_of_ow (hM.get 0 rfl))) fun a hS => ?_
  refine st_val hS rfl rfl (by decide) (rv_assign (hS.ev rfl)) fun a hS => ?_
  refine wpList_nil ?_
  refine hK114 _ _ ?_
  refine wp_ret ?_
  cases hF
  exact hQr _ _ (r_1 hS rfl rfl ⟨rfl, hM.pk [1] (by decide) (pc rfl pn)⟩)
 refine wp_seq_k fun K115 hK115 => ?_
 refine wp_region_lit ?_
 refine st_val hS rfl rfl (by decide) (rv_move (hS.ev rfl)) fun a hS => ?_
 refine st_val hS rfl rfl (by decide) (rv_move (hS.ev rfl)) fun a hS => ?_
 refine st_val hS rfl rfl (by decide) (rv_add (hS.ev rfl) (hS.ev rfl)) fun a hS => ?_
 obtain ⟨r117, hr, hF⟩ := bind_some hF
 have hM := hM.pk [0, 1, 2] (by decide) (pc rfl (pc rfl (pc rfl pn)))
 have hP := Mem.pre (A := [(true, bx p0_cb 84 [p0_c_bv, (int i64 r7.2.1), (int i64 r7.2.2)])]) (C := [(false, rd p0_c_bv (List.map (int IntKind.u8) p0_c_b))]) (B := [(true, ow 5 v4 (List.map (int IntKind.u8) ([] : List (Int))))]) hM rfl (weaks_cons (weak_self _ _) weaks_nil)
 refine st_wp hS rfl (wp_call hS rfl rfl (by decide) fn_ok_72 rfl (c_spec_l1Below F p0_c_b r7.2.1 r7.2.2 (i64.wrap (p1_most + 1)) p0_c_bv p0_cb hr _ hP) fun v w a hK hS => ?_)
 obtain ⟨rfl, hN⟩ := hK
 have hM := Mem.callo (A := [(true, bx p0_cb 84 [p0_c_bv, (int i64 r7.2.1), (int i64 r7.2.2)])]) (B := [(false, rd p0_c_bv (List.map (int IntKind.u8) p0_c_b)), (true, ow 5 v4 (List.map (int IntKind.u8) ([] : List (Int))))]) hM rfl hN rfl
 refine st_val hS rfl rfl (by decide) (rv_assign (hS.ev rfl)) fun a hS => ?_
 refine wpList_nil ?_
 refine hK115 _ _ ?_
 have hS : Sl 38 [(0, (fdp p0_cb 0)), (5, v4), (6, (int i64 r7.1)), (7, (int i64 r117.1))] a := hS.sub (sub_cons rfl (sub_cons rfl (sub_cons rfl (sub_cons rfl sub_nil))))
 refine wp_block ?_
 obtain ⟨lb2, hl2, hF2⟩ := bind_some hF
 refine wp_loop_sh (fun s => S_spec_l1Text_l2 F p0_c_b r7 s.1 s.2.1 s.2.2.1 s.2.2.2) (fun s a w => ∃ (v153 : Value), Sl 38 [(0, (fdp p0_cb 0)), (5, v153), (6, (int i64 r7.1)), (7, (int i64 s.2.2.2))] a ∧ Mem (feet [(true, bx p0_cb 84 [p0_c_bv, (int i64 p0_c_i), (int i64 p0_c_h)])]) w0 w [(true, bx p0_cb 84 [p0_c_bv, (int i64 s.1), (int i64 s.2.1)]), (false, rd p0_c_bv (List.map (int IntKind.u8) p0_c_b)), (true, ow 5 v153 (List.map (int IntKind.u8) s.2.2.1))]) hl2 ⟨v4, (hS.sub (sub_cons rfl (sub_cons rfl (sub_cons rfl (sub_cons rfl sub_nil))))), (hM.pk [0, 1, 2] (by decide) (pc rfl (pc rfl (pc rfl pn))))⟩ ?_
 rintro K2 ⟨x151, x152, l154, x155⟩ a w res2 ⟨v153, hS, hM⟩ hF hN2 hX2
 have hF : S_spec_l1Text_l2 F p0_c_b r7 x151 x152 l154 x155 = some res2 := hF
 have hS : Sl 38 [(0, (fdp p0_cb 0)), (5, v153), (6, (int i64 r7.1)), (7, (int i64 x155))] a := hS
 have hM : Mem (feet [(true, bx p0_cb 84 [p0_c_bv, (int i64 p0_c_i), (int i64 p0_c_h)])]) w0 w [(true, bx p0_cb 84 [p0_c_bv, (int i64 x151), (int i64 x152)]), (false, rd p0_c_bv (List.map (int IntKind.u8) p0_c_b)), (true, ow 5 v153 (List.map (int IntKind.u8) l154))] := hM
 unfold S_spec_l1Text_l2 at hF
 refine wp_seq_k fun K186 hK186 => ?_
 refine wp_seq_k fun K188 hK188 => ?_
 refine wp_region_lit ?_
 refine st_val hS rfl rfl (by decide) (rv_move (hS.ev rfl)) fun a hS => ?_
 refine st_val hS rfl rfl (by decide) (rv_gtr (hS.ev rfl) (hS.ev rfl)) fun a hS => ?_
 refine wpList_nil ?_
 refine hK188 _ _ ?_
 rcases ite_some hF with ⟨hc, hF⟩ | ⟨hc, hF⟩
 ·refine cond_t hS rfl hc ?_
  refine wp_skip ?_
  refine hK186 _ _ ?_
  refine wp_seq_k fun K189 hK189 => ?_
  refine wp_block ?_
  refine wp_seq_k fun K203 hK203 => ?_
  refine wp_region_lit ?_
  refine st_val hS rfl rfl (by decide) (rv_move (hS.ev rfl)) fun a hS => ?_
  obtain ⟨r205, hr, hF⟩ := bind_some hF
  have hM := hM.pk [0, 1, 2] (by decide) (pc rfl (pc rfl (pc rfl pn)))
  have hP := Mem.pre (A := [(true, bx p0_cb 84 [p0_c_bv, (int i64 x151), (int i64 x152)])]) (C := [(false, rd p0_c_bv (List.map (int IntKind.u8) p0_c_b))]) (B := [(true, ow 5 v153 (List.map (int IntKind.u8) l154))]) hM rfl (weaks_cons (weak_self _ _) weaks_nil)
  refine st_wp hS rfl (wp_call hS rfl rfl (by decide) fn_ok_92 rfl (c_spec_l1Byte F p0_c_b x151 x152 p0_c_bv p0_cb hr _ hP) fun v w a hK hS => ?_)
  obtain ⟨rfl, hN⟩ := hK
  have hM := Mem.callo (A := [(true, bx p0_cb 84 [p0_c_bv, (int i64 x151), (int i64 x152)])]) (B := [(false, rd p0_c_bv (List.map (int IntKind.u8) p0_c_b)), (true, ow 5 v153 (List.map (int IntKind.u8) l154))]) hM rfl hN rfl
  refine st_val hS rfl rfl (by decide) (rv_assign (hS.ev rfl)) fun a hS => ?_
  refine wpList_nil ?_
  refine hK203 _ _ ?_
  refine wp_seq_k fun K206 hK206 => ?_
  have hJ3 : ∀ (x208 : Int) (a : Act) (w : World), Sl 38 [(0, (fdp p0_cb 0)), (5, v153), (6, (int i64 r7.1)), (7, (int i64 x155)), (8, (int i64 x208))] a → Mem (feet [(true, bx p0_cb 84 [p0_c_bv, (int i64 p0_c_i), (int i64 p0_c_h)])]) w0 w [(true, bx p0_cb 84 [p0_c_bv, (int i64 r205.2.1), (int i64 r205.2.2)]), (false, rd p0_c_bv (List.map (int IntKind.u8) p0_c_b)), (true, ow 5 v153 (List.map (int IntKind.u8) l154))] → S_spec_l1Text_j3 F r7 l154 x155 r205 x208 = some res2 → K206 a w := by
   intro x208 a w hS hM hF
   unfold S_spec_l1Text_j3 at hF
   refine hK206 _ _ ?_
   refine wp_seq_k fun K209 hK209 => ?_
   have hJ4 : ∀ (x211 : Int) (a : Act) (w : World), Sl 38 [(0, (fdp p0_cb 0)), (5, v153), (6, (int i64 r7.1)), (7, (int i64 x155)), (8, (int i64 x211))] a → Mem (feet [(true, bx p0_cb 84 [p0_c_bv, (int i64 p0_c_i), (int i64 p0_c_h)])]) w0 w [(true, bx p0_cb 84 [p0_c_bv, (int i64 r205.2.1), (int i64 r205.2.2)]), (false, rd p0_c_bv (List.map (int IntKind.u8) p0_c_b)), (true, ow 5 v153 (List.map (int IntKind.u8) l154))] → S_spec_l1Text_j4 F l154 x155 r205 x211 = some res2 → K209 a w := by
    intro x211 a w hS hM hF
    unfold S_spec_l1Text_j4 at hF
    refine hK209 _ _ ?_
    refine wp_region_lit ?_
    refine st_val hS rfl rfl (by decide) (rv_move (hS.ev rfl)) fun a hS => ?_
    refine st_val hS rfl rfl (by decide) (rv_move (hS.ev rfl)) fun a hS => ?_
    refine st_val hS rfl rfl (by decide) (rv_conv Tryd.underlying3 Tryd.underlying5 (hS.ev rfl)) fun a hS => ?_
    obtain ⟨v212, w, hr, hM⟩ := Mem.litE (f := (int IntKind.u8)) (dst := some 34) (ty := _) (pos := _) (af := _) (gd := _) (ps := [(0, .tmp 33)]) ([(IntKind.u8.wrap x211)] : List (Int)) u8_one hM hS Tryd.underlying22 ty_el_5 rfl rfl rfl rfl
    refine st_val hS rfl rfl (by decide) hr fun a hS => ?_
    obtain ⟨_, hx, hF⟩ := bind_some hF
    have hM := hM.pk [3, 0, 1, 2] (by decide) (pc rfl (pc rfl (pc rfl (pc rfl pn))))
    obtain ⟨v213, w, hr, hM⟩ := Mem.appE (f := (int IntKind.u8)) (S := _) (R := [(true, ow 5 v212 (List.map (int IntKind.u8) ([(IntKind.u8.wrap x211)] : List (Int)))), (true, bx p0_cb 84 [p0_c_bv, (int i64 r205.2.1), (int i64 r205.2.2)]), (false, rd p0_c_bv (List.map (int IntKind.u8) p0_c_b))]) (ρ := a.eval) (dst := some 35) (ty := _) (pos := _) (af := _) (gd := _) (x := .tmp 31) (y := .tmp 34) u8_one hM Tryd.underlying22 ty_el_5 rfl (by decide) (hS.ev rfl) (hS.ev rfl) (rd_of_ow (hM.get 1 rfl)) (catO_some hx)
    refine st_val hS rfl rfl (by decide) hr fun a hS => ?_
    refine st_val hS rfl rfl (by decide) (rv_assign (hS.ev rfl)) fun a hS => ?_
    refine wpList_nil ?_
    refine hK189 _ _ ?_
    refine wp_region_lit ?_
    refine st_val hS rfl rfl (by decide) (rv_move (hS.ev rfl)) fun a hS => ?_
    refine st_val hS rfl rfl (by decide) (rv_sub (hS.ev rfl) (hS.ev rfl)) fun a hS => ?_
    refine st_val hS rfl rfl (by decide) (rv_assign (hS.ev rfl)) fun a hS => ?_
    refine wpList_nil ?_
    cases hF
    exact hN2 _ _ _ rfl ⟨v213, (hS.sub (sub_cons rfl (sub_cons rfl (sub_cons rfl (sub_cons rfl sub_nil))))), (hM.pk [2, 3, 0] (by decide) (pc rfl (pc rfl (pc rfl pn))))⟩
   refine wp_seq_k fun K214 hK214 => ?_
   refine wp_region_lit ?_
   refine st_val hS rfl rfl (by decide) (rv_move (hS.ev rfl)) fun a hS => ?_
   refine st_val hS rfl rfl (by decide) (rv_eql (hS.ev rfl) (hS.ev rfl)) fun a hS => ?_
   refine wpList_nil ?_
   refine hK214 _ _ ?_
   rcases ite_some hF with ⟨hc, hF⟩ | ⟨hc, hF⟩
   ·refine cond_t hS rfl hc ?_
    refine wp_region_lit ?_
    refine st_val hS rfl rfl (by decide) (rv_move (hS.ev rfl)) fun a hS => ?_
    refine st_val hS rfl rfl (by decide) (rv_rem (hS.ev rfl) (hS.ev rfl) (by decide)) fun a hS => ?_
    refine st_val hS rfl rfl (by decide) (rv_add (hS.ev rfl) (hS.ev rfl)) fun a hS => ?_
    refine st_val hS rfl rfl (by decide) (rv_assign (hS.ev rfl)) fun a hS => ?_
    refine wpList_nil ?_
    exact hJ4 (i64.wrap (97 + (x208.tmod 4))) _ _ (hS.sub (sub_cons rfl (sub_cons rfl (sub_cons rfl (sub_cons rfl (sub_cons rfl sub_nil)))))) (hM.pk [0, 1, 2] (by decide) (pc rfl (pc rfl (pc rfl pn)))) hF
   ·refine cond_f hS rfl hc ?_
    refine wp_skip ?_
    exact hJ4 x208 _ _ (hS.sub (sub_cons rfl (sub_cons rfl (sub_cons rfl (sub_cons rfl (sub_cons rfl sub_nil)))))) (hM.pk [0, 1, 2] (by decide) (pc rfl (pc rfl (pc rfl pn)))) hF
  refine wp_seq_k fun K215 hK215 => ?_
  refine wp_region_lit ?_
  refine st_val hS rfl rfl (by decide) (rv_move (hS.ev rfl)) fun a hS => ?_
  refine st_val hS rfl rfl (by decide) (rv_eql (hS.ev rfl) (hS.ev rfl)) fun a hS => ?_
  refine wpList_nil ?_
  refine hK215 _ _ ?_
  rcases ite_some hF with ⟨hc, hF⟩ | ⟨hc, hF⟩
  ·refine cond_t hS rfl hc ?_
   refine wp_region_lit ?_
   refine st_val hS rfl rfl (by decide) (rv_move (hS.ev rfl)) fun a hS => ?_
   refine st_val hS rfl rfl (by decide) (rv_rem (hS.ev rfl) (hS.ev rfl) (by decide)) fun a hS => ?_
   refine st_val hS rfl rfl (by decide) (rv_assign (hS.ev rfl)) fun a hS => ?_
   refine wpList_nil ?_
   exact hJ3 (r205.1.tmod 2) _ _ (hS.sub (sub_cons rfl (sub_cons rfl (sub_cons rfl (sub_cons rfl (sub_cons rfl sub_nil)))))) (hM.pk [0, 1, 2] (by decide) (pc rfl (pc rfl (pc rfl pn)))) hF
  ·refine cond_f hS rfl hc ?_
   refine wp_skip ?_
   exact hJ3 r205.1 _ _ (hS.sub (sub_cons rfl (sub_cons rfl (sub_cons rfl (sub_cons rfl (sub_cons rfl sub_nil)))))) (hM.pk [0, 1, 2] (by decide) (pc rfl (pc rfl (pc rfl pn)))) hF
 ·refine cond_f hS rfl hc ?_
  refine wp_exit ?_
  cases hF
  exact hJ1 l154 x151 x152 v153 _ _ (hS.sub (sub_cons rfl sub_nil)) (hM.pk [2, 0, 1] (by decide) (pc rfl (pc rfl (pc rfl pn)))) (by have e := hX2 _ rfl; subst e; exact hF2)


theorem c_spec_l1Spoil (F : Nat) (p0_c_b : List Int) (p0_c_i : Int) (p0_c_h : Int) (p1_s : List UInt8) (p0_c_bv : Value) (p0_cb : Nat) {r : (List UInt8) × Int × Int} (hF : S_spec_l1Spoil F p0_c_b p0_c_i p0_c_h p1_s = some r) (w0 : World) (hM : Mem (feet [(true, bx p0_cb 84 [p0_c_bv, (int i64 p0_c_i), (int i64 p0_c_h)])]) w0 w0 [(true, bx p0_cb 84 [p0_c_bv, (int i64 p0_c_i), (int i64 p0_c_h)]), (false, rd p0_c_bv (List.map (int IntKind.u8) p0_c_b))]) :
    Calls Tryd.prog 78 [(fdp p0_cb 0), (Value.string (bs p1_s))].toArray w0 (retPost fun v w' => v = (Value.string (bs r.1)) ∧ Mem (feet [(true, bx p0_cb 84 [p0_c_bv, (int i64 p0_c_i), (int i64 p0_c_h)])]) w0 w' [(true, bx p0_cb 84 [p0_c_bv, (int i64 r.2.1), (int i64 r.2.2)])]) := by
 have hM := hM.pk [1, 0] (by decide) (pc rfl (pc rfl pn))
 refine enter2 Tryd.func78 rfl rfl rfl fun Q a hQr hQn hQp hS => ?_
 have hS : Sl 67 [(0, (fdp p0_cb 0)), (1, (Value.string (bs p1_s)))] a := hS
 unfold S_spec_l1Spoil at hF
 refine wp_seq_k fun K1 hK1 => ?_
 refine wp_region_lit ?_
 refine st_val hS rfl rfl (by decide) (rv_assign (hS.ev rfl)) fun a hS => ?_
 refine wpList_nil ?_
 refine hK1 _ _ ?_
 refine wp_seq_k fun K2 hK2 => ?_
 refine wp_seq_k fun K7 hK7 => ?_
 refine wp_region_lit ?_
 refine st_val hS rfl rfl (by decide) (rv_move (hS.ev rfl)) fun a hS => ?_
 refine st_val hS rfl rfl (by decide) (rv_len_str Tryd.underlying9 (hS.ev rfl)) fun a hS => ?_
 refine st_val hS rfl rfl (by decide) (rv_eql (hS.ev rfl) (hS.ev rfl)) fun a hS => ?_
 refine wpList_nil ?_
 refine hK7 _ _ ?_
 rcases ite_some hF with ⟨hc, hF⟩ | ⟨hc, hF⟩
 ·refine cond_t hS rfl hc ?_
  refine wp_seq_k fun K8 hK8 => ?_
  refine wp_region_lit ?_
  refine st_val hS rfl rfl (by decide) (rv_move (hS.ev rfl)) fun a hS => ?_
  obtain ⟨r10, hr, hF⟩ := bind_some hF
  have hM := hM.pk [1, 0] (by decide) (pc rfl (pc rfl pn))
  have hP := Mem.pre (A := [(true, bx p0_cb 84 [p0_c_bv, (int i64 p0_c_i), (int i64 p0_c_h)])]) (C := [(false, rd p0_c_bv (List.map (int IntKind.u8) p0_c_b))]) (B := []) hM rfl (weaks_cons (weak_self _ _) weaks_nil)
  refine st_wp hS rfl (wp_call hS rfl rfl (by decide) fn_ok_95 rfl (c_spec_l1Text F p0_c_b p0_c_i p0_c_h 3 p0_c_bv p0_cb hr _ hP) fun v w a hK hS => ?_)
  obtain ⟨rfl, hN⟩ := hK
  have hM := Mem.callo (A := [(true, bx p0_cb 84 [p0_c_bv, (int i64 p0_c_i), (int i64 p0_c_h)])]) (B := [(false, rd p0_c_bv (List.map (int IntKind.u8) p0_c_b))]) hM rfl hN rfl
  refine st_val hS rfl rfl (by decide) (rv_assign (hS.ev rfl)) fun a hS => ?_
  refine wpList_nil ?_
  refine hK8 _ _ ?_
  refine wp_ret ?_
  cases hF
  exact hQr _ _ (r_1 hS rfl rfl ⟨rfl, hM.pk [0] (by decide) (pc rfl pn)⟩)
 ·refine cond_f hS rfl hc ?_
  refine wp_skip ?_
  refine hK2 _ _ ?_
  refine wp_seq_k fun K11 hK11 => ?_
  refine wp_region_lit ?_
  refine st_val hS rfl rfl (by decide) (rv_move (hS.ev rfl)) fun a hS => ?_
  refine st_val hS rfl rfl (by decide) (rv_move (hS.ev rfl)) fun a hS => ?_
  refine st_val hS rfl rfl (by decide) (rv_len_str Tryd.underlying9 (hS.ev rfl)) fun a hS => ?_
  obtain ⟨r13, hr, hF⟩ := bind_some hF
  have hM := hM.pk [1, 0] (by decide) (pc rfl (pc rfl pn))
  have hP := Mem.pre (A := [(true, bx p0_cb 84 [p0_c_bv, (int i64 p0_c_i), (int i64 p0_c_h)])]) (C := [(false, rd p0_c_bv (List.map (int IntKind.u8) p0_c_b))]) (B := []) hM rfl (weaks_cons (weak_self _ _) weaks_nil)
  refine st_wp hS rfl (wp_call hS rfl rfl (by decide) fn_ok_72 rfl (c_spec_l1Below F p0_c_b p0_c_i p0_c_h (p1_s.length : Int) p0_c_bv p0_cb hr _ hP) fun v w a hK hS => ?_)
  obtain ⟨rfl, hN⟩ := hK
  have hM := Mem.callo (A := [(true, bx p0_cb 84 [p0_c_bv, (int i64 p0_c_i), (int i64 p0_c_h)])]) (B := [(false, rd p0_c_bv (List.map (int IntKind.u8) p0_c_b))]) hM rfl hN rfl
  refine st_val hS rfl rfl (by decide) (rv_assign (hS.ev rfl)) fun a hS => ?_
  refine wpList_nil ?_
  refine hK11 _ _ ?_
  have hS : Sl 67 [(0, (fdp p0_cb 0)), (1, (Value.string (bs p1_s))), (5, (int i64 r13.1))] a := hS.sub (sub_cons rfl (sub_cons rfl (sub_cons rfl sub_nil)))
  refine wp_seq_k fun K14 hK14 => ?_
  refine wp_seq_k fun K28 hK28 => ?_
  refine wp_region_lit ?_
  refine st_val hS rfl rfl (by decide) (rv_move (hS.ev rfl)) fun a hS => ?_
  obtain ⟨r30, hr, hF⟩ := bind_some hF
  have hM := hM.pk [0, 1] (by decide) (pc rfl (pc rfl pn))
  have hP := Mem.pre (A := [(true, bx p0_cb 84 [p0_c_bv, (int i64 r13.2.1), (int i64 r13.2.2)])]) (C := [(false, rd p0_c_bv (List.map (int IntKind.u8) p0_c_b))]) (B := []) hM rfl (weaks_cons (weak_self _ _) weaks_nil)
  refine st_wp hS rfl (wp_call hS rfl rfl (by decide) fn_ok_72 rfl (c_spec_l1Below F p0_c_b r13.2.1 r13.2.2 4 p0_c_bv p0_cb hr _ hP) fun v w a hK hS => ?_)
  obtain ⟨rfl, hN⟩ := hK
  have hM := Mem.callo (A := [(true, bx p0_cb 84 [p0_c_bv, (int i64 r13.2.1), (int i64 r13.2.2)])]) (B := [(false, rd p0_c_bv (List.map (int IntKind.u8) p0_c_b))]) hM rfl hN rfl
  refine wpList_nil ?_
  refine hK28 _ _ ?_
  refine wp_block ?_
  refine wp_seq_k fun K31 hK31 => ?_
  refine wp_region_lit ?_
  refine st_val hS rfl rfl (by decide) (rv_eql (hS.ev rfl) (hS.ev rfl)) fun a hS => ?_
  refine st_val hS rfl rfl (by decide) (rv_assign (hS.ev rfl)) fun a hS => ?_
  refine wpList_nil ?_
  refine hK31 _ _ ?_
  rcases ite_some hF with ⟨hc, hF⟩ | ⟨hc, hF⟩
  ·refine cond_t hS rfl hc ?_
   refine wp_seq_k fun K32 hK32 => ?_
   refine an_startB 9 Nob ty_mixed (by kernel_rfl) fun w hf => ?_
   have hM := hM.fra hf
   have hB := hM
   have hM := hB.reg0
   try dsimp only [ro] at hM
   refine tkB hS 0 1 (by kernel_rfl) rfl rfl rfl hQp rfl (fun w' hC' => (rv_move (hS.ev rfl))) hM.fr fun a hS => ?_
   refine tkB hS 1 3 (by kernel_rfl) rfl rfl rfl hQp rfl (fun w' hC' => (rv_move (hS.ev rfl))) hM.fr fun a hS => ?_
   obtain ⟨_, hx, hF⟩ := bind_some hF
   have hi0 := sl2O_some hx
   refine tkB hS 2 7 (by kernel_rfl) rfl rfl rfl hQp rfl (fun w' hC' => (rv_sliceS (i := 0) (j := r13.1) (k1 := .i64) (k2 := .i64) Tryd.underlying9 (hS.ev rfl) (.inr ⟨rfl, rfl⟩) (.inl (congrArg some (hS.ev rfl))) hi0)) hM.fr fun a hS => ?_
   refine tkB hS 3 15 (by kernel_rfl) rfl rfl rfl hQp rfl (fun w' hC' => (rv_move (hS.ev rfl))) hM.fr fun a hS => ?_
   refine tkB hS 4 31 (by kernel_rfl) rfl rfl rfl hQp rfl (fun w' hC' => (rv_move (hS.ev rfl))) hM.fr fun a hS => ?_
   refine tkB hS 5 63 (by kernel_rfl) rfl rfl rfl hQp rfl (fun w' hC' => (rv_add (hS.ev rfl) (hS.ev rfl))) hM.fr fun a hS => ?_
   obtain ⟨_, hx, hF⟩ := bind_some hF
   have hi0 := sl2O_some hx
   refine tkB hS 6 127 (by kernel_rfl) rfl rfl rfl hQp rfl (fun w' hC' => (rv_sliceS (i := (i64.wrap (r13.1 + 1))) (j := (p1_s.length : Int)) (k1 := .i64) (k2 := .i64) Tryd.underlying9 (hS.ev rfl) (.inl (congrArg some (hS.ev rfl))) (.inr ⟨rfl, rfl⟩) hi0)) hM.fr fun a hS => ?_
   obtain ⟨_, hx, hF⟩ := bind_some hF
   have hi0 := catO_some hx
   refine tkB hS 7 255 (by kernel_rfl) rfl rfl rfl hQp rfl (fun w' hC' => (rv_str_add (hS.ev rfl) (hS.ev rfl) hi0)) hM.fr fun a hS => ?_
   refine tkB hS 8 511 (by kernel_rfl) rfl rfl rfl hQp rfl (fun w' hC' => (rv_assign (hS.ev rfl))) hM.fr fun a hS => ?_
   refine an_done (by kernel_rfl) ?_
   have hN := hM.pk [] (by decide) pn
   have hM := Mem.callo0 hB hN rfl
   refine hK32 _ _ ?_
   have hS : Sl 67 [(4, (Value.string (bs (((p1_s.drop (0 : Int).toNat).take (r13.1.toNat - (0 : Int).toNat)) ++ ((p1_s.drop (i64.wrap (r13.1 + 1)).toNat).take ((p1_s.length : Int).toNat - (i64.wrap (r13.1 + 1)).toNat))))))] a := hS.sub (sub_cons rfl sub_nil)
   refine wp_ret ?_
   cases hF
   exact hQr _ _ (r_1 hS rfl rfl ⟨rfl, hM.pk [0] (by decide) (pc rfl pn)⟩)
  ·refine cond_f hS rfl hc ?_
   refine wp_seq_k fun K33 hK33 => ?_
   refine wp_region_lit ?_
   refine st_val hS rfl rfl (by decide) (rv_eql (hS.ev rfl) (hS.ev rfl)) fun a hS => ?_
   refine st_val hS rfl rfl (by decide) (rv_assign (hS.ev rfl)) fun a hS => ?_
   refine wpList_nil ?_
   refine hK33 _ _ ?_
   rcases ite_some hF with ⟨hc, hF⟩ | ⟨hc, hF⟩
   ·refine cond_t hS rfl hc ?_
    refine wp_seq_k fun K34 hK34 => ?_
    refine an_startB 14 (feet [(true, bx p0_cb 84 [p0_c_bv, (int i64 r30.2.1), (int i64 r30.2.2)])]) ty_mixed (by kernel_rfl) fun w hf => ?_
    have hM := hM.fra hf
    have hB := hM
    have hM := hB.reg1 rfl
    refine tkB hS 0 1 (by kernel_rfl) rfl rfl rfl hQp rfl (fun w' hC' => (rv_move (hS.ev rfl))) hM.fr fun a hS => ?_
    refine tkB hS 1 3 (by kernel_rfl) rfl rfl rfl hQp rfl (fun w' hC' => (rv_move (hS.ev rfl))) hM.fr fun a hS => ?_
    obtain ⟨_, hx, hF⟩ := bind_some hF
    have hi0 := sl2O_some hx
    refine tkB hS 2 7 (by kernel_rfl) rfl rfl rfl hQp rfl (fun w' hC' => (rv_sliceS (i := 0) (j := r13.1) (k1 := .i64) (k2 := .i64) Tryd.underlying9 (hS.ev rfl) (.inr ⟨rfl, rfl⟩) (.inl (congrArg some (hS.ev rfl))) hi0)) hM.fr fun a hS => ?_
    refine tkB hS 3 15 (by kernel_rfl) rfl rfl rfl hQp rfl (fun w' hC' => (rv_move (hS.ev rfl))) hM.fr fun a hS => ?_
    refine tkB hS 9 527 (by kernel_rfl) rfl rfl rfl hQp rfl (fun w' hC' => (rv_move (hS.ev rfl))) hM.fr fun a hS => ?_
    refine tkB hS 10 1551 (by kernel_rfl) rfl rfl rfl hQp rfl (fun w' hC' => (rv_move (hS.ev rfl))) hM.fr fun a hS => ?_
    obtain ⟨_, hx, hF⟩ := bind_some hF
    have hi0 := sl2O_some hx
    refine tkB hS 11 3599 (by kernel_rfl) rfl rfl rfl hQp rfl (fun w' hC' => (rv_sliceS (i := r13.1) (j := (p1_s.length : Int)) (k1 := .i64) (k2 := .i64) Tryd.underlying9 (hS.ev rfl) (.inl (congrArg some (hS.ev rfl))) (.inr ⟨rfl, rfl⟩) hi0)) hM.fr fun a hS => ?_
    obtain ⟨r37, hr, hF⟩ := bind_some hF
    have hM := hM.pk [0, 1] (by decide) (pc rfl (pc rfl pn))
    have hP := Mem.pre (A := [(true, bx p0_cb 84 [p0_c_bv, (int i64 r30.2.1), (int i64 r30.2.2)])]) (C := [(false, rd p0_c_bv (List.map (int IntKind.u8) p0_c_b))]) (B := []) hM rfl (weaks_cons (weak_self _ _) weaks_nil)
    refine an_oneB hS (i := 4) 3615 (by kernel_rfl) rfl (by kernel_rfl) rfl ?_
    refine wp_call hS rfl rfl (by decide) fn_ok_92 rfl (c_spec_l1Byte F p0_c_b r30.2.1 r30.2.2 p0_c_bv p0_cb hr _ hP) fun v w a hK hS => ?_
    obtain ⟨rfl, hN⟩ := hK
    have hM := Mem.callo (A := [(true, bx p0_cb 84 [p0_c_bv, (int i64 r30.2.1), (int i64 r30.2.2)])]) (B := [(false, rd p0_c_bv (List.map (int IntKind.u8) p0_c_b))]) hM rfl hN rfl
    refine ⟨hM.fr, ?_⟩
    refine tkB hS 5 3647 (by kernel_rfl) rfl rfl rfl hQp rfl (fun w' hC' => (rv_conv Tryd.underlying3 Tryd.underlying5 (hS.ev rfl))) hM.fr fun a hS => ?_
    obtain ⟨v38, w, hr, hM⟩ := Mem.litE (f := (int IntKind.u8)) (dst := some 35) (ty := _) (pos := _) (af := _) (gd := _) (ps := [(0, .tmp 34)]) ([(IntKind.u8.wrap r37.1)] : List (Int)) u8_one hM hS Tryd.underlying22 ty_el_5 rfl rfl rfl rfl
    refine an_oneB hS (i := 6) 3711 (by kernel_rfl) rfl (by kernel_rfl) rfl ?_
    refine wp_val hS rfl (by decide) hr fun a hS => ⟨hM.fr, ?_⟩
    refine an_oneB hS (i := 7) 3839 (by kernel_rfl) rfl (by kernel_rfl) rfl ?_
    refine wp_val hS rfl (by decide) (rv_bstr Tryd.underlying22 Tryd.underlying5 Tryd.underlying9 (hS.ev rfl) (rd_of_ow (hM.get 0 rfl))) fun a hS => ⟨hM.fr, ?_⟩
    obtain ⟨_, hx, hF⟩ := bind_some hF
    have hi0 := catO_some hx
    refine tkB hS 8 4095 (by kernel_rfl) rfl rfl rfl hQp rfl (fun w' hC' => (rv_str_add (hS.ev rfl) (hS.ev rfl) hi0)) hM.fr fun a hS => ?_
    obtain ⟨_, hx, hF⟩ := bind_some hF
    have hi0 := catO_some hx
    refine tkB hS 12 8191 (by kernel_rfl) rfl rfl rfl hQp rfl (fun w' hC' => (rv_str_add (hS.ev rfl) (hS.ev rfl) hi0)) hM.fr fun a hS => ?_
    refine tkB hS 13 16383 (by kernel_rfl) rfl rfl rfl hQp rfl (fun w' hC' => (rv_assign (hS.ev rfl))) hM.fr fun a hS => ?_
    refine an_done (by kernel_rfl) ?_
    have hN := hM.pk [0, 1] (by decide) (pc rfl (pc rfl pn))
    have hM := Mem.callo (A := [(true, bx p0_cb 84 [p0_c_bv, (int i64 r30.2.1), (int i64 r30.2.2)])]) (B := [(false, rd p0_c_bv (List.map (int IntKind.u8) p0_c_b))]) hB rfl (hN.memS fun _ h => h) rfl
    refine hK34 _ _ ?_
    have hS : Sl 67 [(4, (Value.string (bs ((((p1_s.drop (0 : Int).toNat).take (r13.1.toNat - (0 : Int).toNat)) ++ (u8s ([(IntKind.u8.wrap r37.1)] : List (Int)))) ++ ((p1_s.drop r13.1.toNat).take ((p1_s.length : Int).toNat - r13.1.toNat))))))] a := hS.sub (sub_cons rfl sub_nil)
    have hM := hM.pk [1, 2] (by decide) (pc rfl (pc rfl pn))
    refine wp_ret ?_
    cases hF
    exact hQr _ _ (r_1 hS rfl rfl ⟨rfl, hM.pk [0] (by decide) (pc rfl pn)⟩)
   ·refine cond_f hS rfl hc ?_
    refine wp_seq_k fun K39 hK39 => ?_
    refine wp_region_lit ?_
    refine st_val hS rfl rfl (by decide) (rv_eql (hS.ev rfl) (hS.ev rfl)) fun a hS => ?_
    refine st_val hS rfl rfl (by decide) (rv_assign (hS.ev rfl)) fun a hS => ?_
    refine wpList_nil ?_
    refine hK39 _ _ ?_
    rcases ite_some hF with ⟨hc, hF⟩ | ⟨hc, hF⟩
    ·refine cond_t hS rfl hc ?_
     refine wp_seq_k fun K40 hK40 => ?_
     refine wp_region_lit ?_
     refine st_val hS rfl rfl (by decide) (rv_move (hS.ev rfl)) fun a hS => ?_
     refine st_val hS rfl rfl (by decide) (rv_move (hS.ev rfl)) fun a hS => ?_
     obtain ⟨_, hx, hF⟩ := bind_some hF
     have hi0 := sl2O_some hx
     refine st_val hS rfl rfl (by decide) (rv_sliceS (i := 0) (j := r13.1) (k1 := .i64) (k2 := .i64) Tryd.underlying9 (hS.ev rfl) (.inr ⟨rfl, rfl⟩) (.inl (congrArg some (hS.ev rfl))) hi0) fun a hS => ?_
     refine st_val hS rfl rfl (by decide) (rv_assign (hS.ev rfl)) fun a hS => ?_
     refine wpList_nil ?_
     refine hK40 _ _ ?_
     have hS : Sl 67 [(4, (Value.string (bs ((p1_s.drop (0 : Int).toNat).take (r13.1.toNat - (0 : Int).toNat)))))] a := hS.sub (sub_cons rfl sub_nil)
     refine wp_ret ?_
     cases hF
     exact hQr _ _ (r_1 hS rfl rfl ⟨rfl, hM.pk [0] (by decide) (pc rfl pn)⟩)
    ·refine cond_f hS rfl hc ?_
     refine wp_skip ?_
     refine hK14 _ _ ?_
     have hS : Sl 67 [(0, (fdp p0_cb 0)), (1, (Value.string (bs p1_s))), (5, (int i64 r13.1))] a := hS.sub (sub_cons rfl (sub_cons rfl (sub_cons rfl sub_nil)))
     refine wp_seq_k fun K41 hK41 => ?_
     refine an_startB 21 (feet [(true, bx p0_cb 84 [p0_c_bv, (int i64 r30.2.1), (int i64 r30.2.2)])]) ty_mixed (by kernel_rfl) fun w hf => ?_
     have hM := hM.fra hf
     have hB := hM
     have hM := hB.reg1 rfl
     refine tkB hS 0 1 (by kernel_rfl) rfl rfl rfl hQp rfl (fun w' hC' => (rv_move (hS.ev rfl))) hM.fr fun a hS => ?_
     refine tkB hS 1 3 (by kernel_rfl) rfl rfl rfl hQp rfl (fun w' hC' => (rv_move (hS.ev rfl))) hM.fr fun a hS => ?_
     obtain ⟨_, hx, hF⟩ := bind_some hF
     have hi0 := sl2O_some hx
     refine tkB hS 2 7 (by kernel_rfl) rfl rfl rfl hQp rfl (fun w' hC' => (rv_sliceS (i := 0) (j := r13.1) (k1 := .i64) (k2 := .i64) Tryd.underlying9 (hS.ev rfl) (.inr ⟨rfl, rfl⟩) (.inl (congrArg some (hS.ev rfl))) hi0)) hM.fr fun a hS => ?_
     refine tkB hS 3 15 (by kernel_rfl) rfl rfl rfl hQp rfl (fun w' hC' => (rv_move (hS.ev rfl))) hM.fr fun a hS => ?_
     refine tkB hS 4 31 (by kernel_rfl) rfl rfl rfl hQp rfl (fun w' hC' => (rv_move (hS.ev rfl))) hM.fr fun a hS => ?_
     obtain ⟨x45, hx, hF⟩ := bind_some hF
     obtain ⟨hi0, hi1, hi2⟩ := idxL_some hx
     refine tkB hS 5 63 (by kernel_rfl) rfl rfl rfl hQp rfl (fun w' hC' => (rv_index Tryd.underlying9 (hS.ev rfl) (hS.ev rfl) hi0 hi2)) hM.fr fun a hS => ?_
     refine tkB hS 6 127 (by kernel_rfl) rfl rfl rfl hQp rfl (fun w' hC' => (rv_conv Tryd.underlying5 Tryd.underlying3 (hS.ev rfl))) hM.fr fun a hS => ?_
     refine tkB hS 7 255 (by kernel_rfl) rfl rfl rfl hQp rfl (fun w' hC' => (rv_move (hS.ev rfl))) hM.fr fun a hS => ?_
     refine tkB hS 15 33023 (by kernel_rfl) rfl rfl rfl hQp rfl (fun w' hC' => (rv_move (hS.ev rfl))) hM.fr fun a hS => ?_
     refine tkB hS 16 98559 (by kernel_rfl) rfl rfl rfl hQp rfl (fun w' hC' => (rv_move (hS.ev rfl))) hM.fr fun a hS => ?_
     refine tkB hS 17 229631 (by kernel_rfl) rfl rfl rfl hQp rfl (fun w' hC' => (rv_add (hS.ev rfl) (hS.ev rfl))) hM.fr fun a hS => ?_
     obtain ⟨_, hx, hF⟩ := bind_some hF
     have hi0 := sl2O_some hx
     refine tkB hS 18 491775 (by kernel_rfl) rfl rfl rfl hQp rfl (fun w' hC' => (rv_sliceS (i := (i64.wrap (r13.1 + 1))) (j := (p1_s.length : Int)) (k1 := .i64) (k2 := .i64) Tryd.underlying9 (hS.ev rfl) (.inl (congrArg some (hS.ev rfl))) (.inr ⟨rfl, rfl⟩) hi0)) hM.fr fun a hS => ?_
     obtain ⟨r46, hr, hF⟩ := bind_some hF
     have hM := hM.pk [0, 1] (by decide) (pc rfl (pc rfl pn))
     have hP := Mem.pre (A := [(true, bx p0_cb 84 [p0_c_bv, (int i64 r30.2.1), (int i64 r30.2.2)])]) (C := [(false, rd p0_c_bv (List.map (int IntKind.u8) p0_c_b))]) (B := []) hM rfl (weaks_cons (weak_self _ _) weaks_nil)
     refine an_oneB hS (i := 8) 492031 (by kernel_rfl) rfl (by kernel_rfl) rfl ?_
     refine wp_call hS rfl rfl (by decide) fn_ok_72 rfl (c_spec_l1Below F p0_c_b r30.2.1 r30.2.2 255 p0_c_bv p0_cb hr _ hP) fun v w a hK hS => ?_
     obtain ⟨rfl, hN⟩ := hK
     have hM := Mem.callo (A := [(true, bx p0_cb 84 [p0_c_bv, (int i64 r30.2.1), (int i64 r30.2.2)])]) (B := [(false, rd p0_c_bv (List.map (int IntKind.u8) p0_c_b))]) hM rfl hN rfl
     refine ⟨hM.fr, ?_⟩
     refine tkB hS 9 492543 (by kernel_rfl) rfl rfl rfl hQp rfl (fun w' hC' => (rv_add (hS.ev rfl) (hS.ev rfl))) hM.fr fun a hS => ?_
     refine tkB hS 10 493567 (by kernel_rfl) rfl rfl rfl hQp rfl (fun w' hC' => (rv_xor (hS.ev rfl) (hS.ev rfl))) hM.fr fun a hS => ?_
     refine tkB hS 11 495615 (by kernel_rfl) rfl rfl rfl hQp rfl (fun w' hC' => (rv_conv Tryd.underlying3 Tryd.underlying5 (hS.ev rfl))) hM.fr fun a hS => ?_
     obtain ⟨v47, w, hr, hM⟩ := Mem.litE (f := (int IntKind.u8)) (dst := some 59) (ty := _) (pos := _) (af := _) (gd := _) (ps := [(0, .tmp 58)]) ([(IntKind.u8.wrap (bXor (i64.wrap (x45.toNat : Int)) (i64.wrap (1 + r46.1))))] : List (Int)) u8_one hM hS Tryd.underlying22 ty_el_5 rfl rfl rfl rfl
     refine an_oneB hS (i := 12) 499711 (by kernel_rfl) rfl (by kernel_rfl) rfl ?_
     refine wp_val hS rfl (by decide) hr fun a hS => ⟨hM.fr, ?_⟩
     refine an_oneB hS (i := 13) 507903 (by kernel_rfl) rfl (by kernel_rfl) rfl ?_
     refine wp_val hS rfl (by decide) (rv_bstr Tryd.underlying22 Tryd.underlying5 Tryd.underlying9 (hS.ev rfl) (rd_of_ow (hM.get 0 rfl))) fun a hS => ⟨hM.fr, ?_⟩
     obtain ⟨_, hx, hF⟩ := bind_some hF
     have hi0 := catO_some hx
     refine tkB hS 14 524287 (by kernel_rfl) rfl rfl rfl hQp rfl (fun w' hC' => (rv_str_add (hS.ev rfl) (hS.ev rfl) hi0)) hM.fr fun a hS => ?_
     obtain ⟨_, hx, hF⟩ := bind_some hF
     have hi0 := catO_some hx
     refine tkB hS 19 1048575 (by kernel_rfl) rfl rfl rfl hQp rfl (fun w' hC' => (rv_str_add (hS.ev rfl) (hS.ev rfl) hi0)) hM.fr fun a hS => ?_
     refine tkB hS 20 2097151 (by kernel_rfl) rfl rfl rfl hQp rfl (fun w' hC' => (rv_assign (hS.ev rfl))) hM.fr fun a hS => ?_
     refine an_done (by kernel_rfl) ?_
     have hN := hM.pk [0, 1] (by decide) (pc rfl (pc rfl pn))
     have hM := Mem.callo (A := [(true, bx p0_cb 84 [p0_c_bv, (int i64 r30.2.1), (int i64 r30.2.2)])]) (B := [(false, rd p0_c_bv (List.map (int IntKind.u8) p0_c_b))]) hB rfl (hN.memS fun _ h => h) rfl
     refine hK41 _ _ ?_
     have hS : Sl 67 [(4, (Value.string (bs ((((p1_s.drop (0 : Int).toNat).take (r13.1.toNat - (0 : Int).toNat)) ++ (u8s ([(IntKind.u8.wrap (bXor (i64.wrap (x45.toNat : Int)) (i64.wrap (1 + r46.1))))] : List (Int)))) ++ ((p1_s.drop (i64.wrap (r13.1 + 1)).toNat).take ((p1_s.length : Int).toNat - (i64.wrap (r13.1 + 1)).toNat))))))] a := hS.sub (sub_cons rfl sub_nil)
     have hM := hM.pk [1, 2] (by decide) (pc rfl (pc rfl pn))
     refine wp_ret ?_
     cases hF
     exact hQr _ _ (r_1 hS rfl rfl ⟨rfl, hM.pk [0] (by decide) (pc rfl pn)⟩)


theorem c_spec_DrawParseGraph (F : Nat) (p0_code : List Int) (p0_codev : Value) {r : (List UInt8)} (hF : S_spec_DrawParseGraph F p0_code = some r) (w0 : World) (h0 : RdRow w0 p0_codev (List.map (int IntKind.u8) p0_code)) :
    Calls Tryd.prog 36 [p0_codev].toArray w0 (retPost fun v w' => v = (Value.string (bs r)) ∧ Mem Nob w0 w' []) := by
 have hM : Mem Nob w0 w0 [(false, rd p0_codev (List.map (int IntKind.u8) p0_code))] := (Mem.rcons (Mem.nil w0) h0 (by simp))
 refine enter2 Tryd.func36 rfl rfl rfl fun Q a hQr hQn hQp hS => ?_
 have hS : Sl 23 [(0, p0_codev)] a := hS
 unfold S_spec_DrawParseGraph at hF
 refine wp_seq_k fun K1 hK1 => ?_
 refine wp_region_lit ?_
 refine st_val hS rfl rfl (by decide) (rv_assign (hS.ev rfl)) fun a hS => ?_
 refine wpList_nil ?_
 refine hK1 _ _ ?_
 refine wp_seq_k fun K2 hK2 => ?_
 refine wp_region_lit ?_
 refine st_val hS rfl rfl (by decide) (rv_move (hS.ev rfl)) fun a hS => ?_
 obtain ⟨r5, hr, hF⟩ := bind_some hF
 refine st_wp hS rfl (wp_call hS rfl rfl (by decide) fn_ok_71 rfl (c_spec_l1New F p0_code p0_codev hr _ (hM.get 0 rfl)) fun v w a hK hS => ?_)
 obtain ⟨b6, rfl, hN⟩ := hK
 have hM := hM.add hN rfl
 refine st_val hS rfl rfl (by decide) (rv_assign (hS.ev rfl)) fun a hS => ?_
 refine wpList_nil ?_
 refine hK2 _ _ ?_
 refine wp_seq_k fun K7 hK7 => ?_
 refine wp_region_lit ?_
 refine st_val hS rfl rfl (by decide) (rv_move (hS.ev rfl)) fun a hS => ?_
 obtain ⟨r11, hr, hF⟩ := bind_some hF
 have hM := hM.pk [0, 1] (by decide) (pc rfl (pc rfl pn))
 have hP := Mem.pre (A := [(true, bx b6 84 [p0_codev, (int i64 r5.1), (int i64 r5.2)])]) (C := [(false, rd p0_codev (List.map (int IntKind.u8) p0_code))]) (B := []) hM rfl (weaks_cons (weak_self _ _) weaks_nil)
 refine st_wp hS rfl (wp_call hS rfl rfl (by decide) fn_ok_76 rfl (c_spec_l2Any F p0_code r5.1 r5.2 p0_codev b6 hr _ hP) fun v w a hK hS => ?_)
 obtain ⟨v12, rfl, hN⟩ := hK
 have hM := Mem.callo (A := [(true, bx b6 84 [p0_codev, (int i64 r5.1), (int i64 r5.2)])]) (B := [(false, rd p0_codev (List.map (int IntKind.u8) p0_code))]) hM rfl hN rfl
 obtain ⟨r13, hr, hF⟩ := bind_some hF
 refine st_wp hS rfl (wp_call hS rfl rfl (by decide) fn_ok_38 rfl (c_spec_FormatGraph F r11.1 r11.2.1 v12 hr _ (rd_of_ow (hM.get 1 rfl))) fun v w a hK hS => ?_)
 obtain ⟨rfl, hN⟩ := hK
 have hM := hM.fra hN.fr
 refine st_val hS rfl rfl (by decide) (rv_assign (hS.ev rfl)) fun a hS => ?_
 refine wpList_nil ?_
 refine hK7 _ _ ?_
 refine wp_seq_k fun K14 hK14 => ?_
 refine wp_seq_k fun K28 hK28 => ?_
 refine wp_region_lit ?_
 refine st_val hS rfl rfl (by decide) (rv_move (hS.ev rfl)) fun a hS => ?_
 obtain ⟨r30, hr, hF⟩ := bind_some hF
 have hM := hM.pk [0, 2, 1] (by decide) (pc rfl (pc rfl (pc rfl pn)))
 have hP := Mem.pre (A := [(true, bx b6 84 [p0_codev, (int i64 r11.2.2.1), (int i64 r11.2.2.2)])]) (C := [(false, rd p0_codev (List.map (int IntKind.u8) p0_code))]) (B := [(true, ow 3 v12 (List.map (int i64) r11.2.1))]) hM rfl (weaks_cons (weak_self _ _) weaks_nil)
 refine st_wp hS rfl (wp_call hS rfl rfl (by decide) fn_ok_72 rfl (c_spec_l1Below F p0_code r11.2.2.1 r11.2.2.2 4 p0_codev b6 hr _ hP) fun v w a hK hS => ?_)
 obtain ⟨rfl, hN⟩ := hK
 have hM := Mem.callo (A := [(true, bx b6 84 [p0_codev, (int i64 r11.2.2.1), (int i64 r11.2.2.2)])]) (B := [(false, rd p0_codev (List.map (int IntKind.u8) p0_code)), (true, ow 3 v12 (List.map (int i64) r11.2.1))]) hM rfl hN rfl
 refine wpList_nil ?_
 refine hK28 _ _ ?_
 have hS : Sl 23 [(3, (fdp b6 0)), (4, (Value.string (bs r13))), (11, (int i64 r30.1))] a := hS.sub (sub_cons rfl (sub_cons rfl (sub_cons rfl sub_nil)))
 have hM := hM.pk [0, 1] (by decide) (pc rfl (pc rfl pn))
 refine wp_block ?_
 refine wp_seq_k fun K31 hK31 => ?_
 refine wp_region_lit ?_
 refine st_val hS rfl rfl (by decide) (rv_eql (hS.ev rfl) (hS.ev rfl)) fun a hS => ?_
 refine st_val hS rfl rfl (by decide) (rv_assign (hS.ev rfl)) fun a hS => ?_
 refine wpList_nil ?_
 refine hK31 _ _ ?_
 rcases ite_some hF with ⟨hc, hF⟩ | ⟨hc, hF⟩
 ·refine cond_t hS rfl hc ?_
  refine wp_seq_k fun K32 hK32 => ?_
  refine wp_region_lit ?_
  refine st_val hS rfl rfl (by decide) (rv_move (hS.ev rfl)) fun a hS => ?_
  refine st_val hS rfl rfl (by decide) (rv_move (hS.ev rfl)) fun a hS => ?_
  obtain ⟨r34, hr, hF⟩ := bind_some hF
  have hM := hM.pk [0, 1] (by decide) (pc rfl (pc rfl pn))
  have hP := Mem.pre (A := [(true, bx b6 84 [p0_codev, (int i64 r30.2.1), (int i64 r30.2.2)])]) (C := [(false, rd p0_codev (List.map (int IntKind.u8) p0_code))]) (B := []) hM rfl (weaks_cons (weak_self _ _) weaks_nil)
  refine st_wp hS rfl (wp_call hS rfl rfl (by decide) fn_ok_78 rfl (c_spec_l1Spoil F p0_code r30.2.1 r30.2.2 r13 p0_codev b6 hr _ hP) fun v w a hK hS => ?_)
  obtain ⟨rfl, hN⟩ := hK
  have hM := Mem.callo (A := [(true, bx b6 84 [p0_codev, (int i64 r30.2.1), (int i64 r30.2.2)])]) (B := [(false, rd p0_codev (List.map (int IntKind.u8) p0_code))]) hM rfl hN rfl
  refine st_val hS rfl rfl (by decide) (rv_assign (hS.ev rfl)) fun a hS => ?_
  refine wpList_nil ?_
  refine hK32 _ _ ?_
  have hS : Sl 23 [(2, (Value.string (bs r34.1)))] a := hS.sub (sub_cons rfl sub_nil)
  have hM := hM.pk [] (by decide) pn
  refine wp_ret ?_
  cases hF
  exact hQr _ _ (r_1 hS rfl rfl ⟨rfl, hM.pk [] (by decide) pn⟩)
 ·refine cond_f hS rfl hc ?_
  refine wp_seq_k fun K35 hK35 => ?_
  refine wp_region_lit ?_
  refine st_val hS rfl rfl (by decide) (rv_eql (hS.ev rfl) (hS.ev rfl)) fun a hS => ?_
  refine st_val hS rfl rfl (by decide) (rv_assign (hS.ev rfl)) fun a hS => ?_
  refine wpList_nil ?_
  refine hK35 _ _ ?_
  rcases ite_some hF with ⟨hc, hF⟩ | ⟨hc, hF⟩
  ·refine cond_t hS rfl hc ?_
   refine wp_seq_k fun K36 hK36 => ?_
   refine wp_region_lit ?_
   refine st_val hS rfl rfl (by decide) (rv_move (hS.ev rfl)) fun a hS => ?_
   obtain ⟨v39, w, hr, hM⟩ := Mem.litE (f := (fun s => Value.string (bs s))) (dst := some 20) (ty := _) (pos := _) (af := _) (gd := _) (ps := [(0, .const (Value.string (bs ([] : List UInt8)))), (1, .const (Value.string (bs ([51] : List UInt8)))), (2, .const (Value.string (bs ([51, 58] : List UInt8)))), (3, .const (Value.string (bs ([48, 58] : List UInt8)))), (4, .const (Value.string (bs ([56, 58] : List UInt8)))), (5, .const (Value.string (bs ([51, 58, 32, 48, 49, 32, 48, 50] : List UInt8)))), (6, .const (Value.string (bs ([51, 58, 32, 48, 50, 32, 48, 49] : List UInt8)))), (7, .const (Value.string (bs ([51, 58, 32, 49, 48] : List UInt8)))), (8, .const (Value.string (bs ([51, 58, 32, 48, 49, 32, 48, 49] : List UInt8)))), (9, .const (Value.string (bs ([51, 58, 32, 48, 51] : List UInt8)))), (10, .const (Value.string (bs ([51, 58, 32, 32, 48, 49] : List UInt8)))), (11, .const (Value.string (bs ([51, 59, 32, 48, 49] : List UInt8))))]) ([([] : List UInt8), ([51] : List UInt8), ([51, 58] : List UInt8), ([48, 58] : List UInt8), ([56, 58] : List UInt8), ([51, 58, 32, 48, 49, 32, 48, 50] : List UInt8), ([51, 58, 32, 48, 50, 32, 48, 49] : List UInt8), ([51, 58, 32, 49, 48] : List UInt8), ([51, 58, 32, 48, 49, 32, 48, 49] : List UInt8), ([51, 58, 32, 48, 51] : List UInt8), ([51, 58, 32, 32, 48, 49] : List UInt8), ([51, 59, 32, 48, 49] : List UInt8)] : List (List UInt8)) str_one hM hS Tryd.underlying75 ty_el_9 rfl rfl rfl rfl
   refine st_val hS rfl rfl (by decide) hr fun a hS => ?_
   obtain ⟨r40, hr, hF⟩ := bind_some hF
   have hM := hM.pk [1, 2, 0] (by decide) (pc rfl (pc rfl (pc rfl pn)))
   have hP := Mem.pre (A := [(true, bx b6 84 [p0_codev, (int i64 r30.2.1), (int i64 r30.2.2)])]) (C := [(false, rd p0_codev (List.map (int IntKind.u8) p0_code)), (true, ow 9 v39 (List.map (fun s => Value.string (bs s)) ([([] : List UInt8), ([51] : List UInt8), ([51, 58] : List UInt8), ([48, 58] : List UInt8), ([56, 58] : List UInt8), ([51, 58, 32, 48, 49, 32, 48, 50] : List UInt8), ([51, 58, 32, 48, 50, 32, 48, 49] : List UInt8), ([51, 58, 32, 49, 48] : List UInt8), ([51, 58, 32, 48, 49, 32, 48, 49] : List UInt8), ([51, 58, 32, 48, 51] : List UInt8), ([51, 58, 32, 32, 48, 49] : List UInt8), ([51, 59, 32, 48, 49] : List UInt8)] : List (List UInt8))))]) (B := []) hM rfl (weaks_cons (weak_self _ _) (weaks_cons (weak_ow _ _ _ _) weaks_nil))
   refine st_wp hS rfl (wp_call hS rfl rfl (by decide) fn_ok_79 rfl (c_spec_l1Pick F p0_code r30.2.1 r30.2.2 ([([] : List UInt8), ([51] : List UInt8), ([51, 58] : List UInt8), ([48, 58] : List UInt8), ([56, 58] : List UInt8), ([51, 58, 32, 48, 49, 32, 48, 50] : List UInt8), ([51, 58, 32, 48, 50, 32, 48, 49] : List UInt8), ([51, 58, 32, 49, 48] : List UInt8), ([51, 58, 32, 48, 49, 32, 48, 49] : List UInt8), ([51, 58, 32, 48, 51] : List UInt8), ([51, 58, 32, 32, 48, 49] : List UInt8), ([51, 59, 32, 48, 49] : List UInt8)] : List (List UInt8)) p0_codev b6 v39 hr _ hP) fun v w a hK hS => ?_)
   obtain ⟨rfl, hN⟩ := hK
   have hM := Mem.callo (A := [(true, bx b6 84 [p0_codev, (int i64 r30.2.1), (int i64 r30.2.2)])]) (B := [(false, rd p0_codev (List.map (int IntKind.u8) p0_code)), (true, ow 9 v39 (List.map (fun s => Value.string (bs s)) ([([] : List UInt8), ([51] : List UInt8), ([51, 58] : List UInt8), ([48, 58] : List UInt8), ([56, 58] : List UInt8), ([51, 58, 32, 48, 49, 32, 48, 50] : List UInt8), ([51, 58, 32, 48, 50, 32, 48, 49] : List UInt8), ([51, 58, 32, 49, 48] : List UInt8), ([51, 58, 32, 48, 49, 32, 48, 49] : List UInt8), ([51, 58, 32, 48, 51] : List UInt8), ([51, 58, 32, 32, 48, 49] : List UInt8), ([51, 59, 32, 48, 49] : List UInt8)] : List (List UInt8))))]) hM rfl hN rfl
   refine st_val hS rfl rfl (by decide) (rv_assign (hS.ev rfl)) fun a hS => ?_
   refine wpList_nil ?_
   refine hK36 _ _ ?_
   have hS : Sl 23 [(2, (Value.string (bs r40.1)))] a := hS.sub (sub_cons rfl sub_nil)
   have hM := hM.pk [] (by decide) pn
   refine wp_ret ?_
   cases hF
   exact hQr _ _ (r_1 hS rfl rfl ⟨rfl, hM.pk [] (by decide) pn⟩)
  ·refine cond_f hS rfl hc ?_
   refine wp_skip ?_
   refine hK14 _ _ ?_
   refine wp_seq_k fun K41 hK41 => ?_
   refine wp_region_lit ?_
   refine st_val hS rfl rfl (by decide) (rv_move (hS.ev rfl)) fun a hS => ?_
   refine st_val hS rfl rfl (by decide) (rv_assign (hS.ev rfl)) fun a hS => ?_
   refine wpList_nil ?_
   refine hK41 _ _ ?_
   have hS : Sl 23 [(2, (Value.string (bs r13)))] a := hS.sub (sub_cons rfl sub_nil)
   have hM := hM.pk [] (by decide) pn
   refine wp_ret ?_
   cases hF
   exact hQr _ _ (r_1 hS rfl rfl ⟨rfl, hM.pk [] (by decide) pn⟩)


theorem c_spec_l2Cut (F : Nat) (p0_s : List UInt8) (p1_by : Int) {r : (List (List UInt8))} (hF : S_spec_l2Cut F p0_s p1_by = some r) (w0 : World) :
    Calls Tryd.prog 80 [(Value.string (bs p0_s)), (int IntKind.u8 p1_by)].toArray w0 (retPost fun v w' => Mem Nob w0 w' [(true, ow 9 v (List.map (fun s => Value.string (bs s)) r))]) := by
 have hM : Mem Nob w0 w0 [] := (Mem.nil w0)
 refine enter2 Tryd.func80 rfl rfl rfl fun Q a hQr hQn hQp hS => ?_
 have hS : Sl 35 [(0, (Value.string (bs p0_s))), (1, (int IntKind.u8 p1_by))] a := hS
 unfold S_spec_l2Cut at hF
 refine wp_seq_k fun K1 hK1 => ?_
 refine wp_region_lit ?_
 refine st_val hS rfl rfl (by decide) (rv_assign (hS.ev rfl)) fun a hS => ?_
 refine wpList_nil ?_
 refine hK1 _ _ ?_
 refine wp_seq_k fun K2 hK2 => ?_
 refine wp_region_lit ?_
 obtain ⟨v4, w, hr, hM⟩ := Mem.litE (f := (fun s => Value.string (bs s))) (dst := some 8) (ty := _) (pos := _) (af := _) (gd := _) (ps := []) ([] : List (List UInt8)) str_one hM hS Tryd.underlying75 ty_el_9 rfl rfl rfl rfl
 refine st_val hS rfl rfl (by decide) hr fun a hS => ?_
 refine st_val hS rfl rfl (by decide) (rv_assign (hS.ev rfl)) fun a hS => ?_
 refine wpList_nil ?_
 refine hK2 _ _ ?_
 refine wp_seq_k fun K5 hK5 => ?_
 refine wp_region_lit ?_
 refine st_val hS rfl rfl (by decide) (rv_assign (hS.ev rfl)) fun a hS => ?_
 refine wpList_nil ?_
 refine hK5 _ _ ?_
 refine wp_seq_k fun K6 hK6 => ?_
 have hJ1 : ∀ (l59 : List (List UInt8)) (s60 : List UInt8) (v58 : Value) (a : Act) (w : World), Sl 35 [(5, v58), (6, (Value.string (bs s60)))] a → Mem Nob w0 w [(true, ow 9 v58 (List.map (fun s => Value.string (bs s)) l59))] → S_spec_l2Cut_j1 F l59 s60 = some r → K6 a w := by
  intro l59 s60 v58 a w hS hM hF
  unfold S_spec_l2Cut_j1 at hF
  refine hK6 _ _ ?_
  refine wp_seq_k fun K61 hK61 => ?_
  refine wp_region_lit ?_
  refine st_val hS rfl rfl (by decide) (rv_move (hS.ev rfl)) fun a hS => ?_
  refine st_val hS rfl rfl (by decide) (rv_move (hS.ev rfl)) fun a hS => ?_
  obtain ⟨v64, w, hr, hM⟩ := Mem.litE (f := (fun s => Value.string (bs s))) (dst := some 33) (ty := _) (pos := _) (af := _) (gd := _) (ps := [(0, .tmp 32)]) ([s60] : List (List UInt8)) str_one hM hS Tryd.underlying75 ty_el_9 rfl rfl rfl rfl
  refine st_val hS rfl rfl (by decide) hr fun a hS => ?_
  obtain ⟨_, hx, hF⟩ := bind_some hF
  have hM := hM.pk [1, 0] (by decide) (pc rfl (pc rfl pn))
  obtain ⟨v65, w, hr, hM⟩ := Mem.appE (f := (fun s => Value.string (bs s))) (S := _) (R := [(true, ow 9 v64 (List.map (fun s => Value.string (bs s)) ([s60] : List (List UInt8))))]) (ρ := a.eval) (dst := some 34) (ty := _) (pos := _) (af := _) (gd := _) (x := .tmp 31) (y := .tmp 33) str_one hM Tryd.underlying75 ty_el_9 rfl (by decide) (hS.ev rfl) (hS.ev rfl) (rd_of_ow (hM.get 1 rfl)) (catO_some hx)
  refine st_val hS rfl rfl (by decide) hr fun a hS => ?_
  refine st_val hS rfl rfl (by decide) (rv_assign (hS.ev rfl)) fun a hS => ?_
  refine wpList_nil ?_
  refine hK61 _ _ ?_
  refine wp_ret ?_
  cases hF
  exact hQr _ _ (r_1 hS rfl rfl (hM.pk [0] (by decide) (pc rfl pn)))
 refine wp_seq_k fun K66 hK66 => ?_
 refine wp_region_lit ?_
 refine st_val hS rfl rfl (by decide) (rv_assign (hS.ev rfl)) fun a hS => ?_
 refine wpList_nil ?_
 refine hK66 _ _ ?_
 refine wp_block ?_
 obtain ⟨lb2, hl2, hF2⟩ := bind_some hF
 refine wp_loop_sh (fun s => S_spec_l2Cut_l2 F p0_s p1_by s.1 s.2.1 s.2.2) (fun s a w => ∃ (v67 : Value), Sl 35 [(0, (Value.string (bs p0_s))), (1, (int IntKind.u8 p1_by)), (5, v67), (6, (Value.string (bs s.2.1))), (7, (int i64 s.2.2))] a ∧ Mem Nob w0 w [(true, ow 9 v67 (List.map (fun s => Value.string (bs s)) s.1))]) hl2 ⟨v4, (hS.sub (sub_cons rfl (sub_cons rfl (sub_cons rfl (sub_cons rfl (sub_cons rfl sub_nil)))))), (hM.pk [0] (by decide) (pc rfl pn))⟩ ?_
 rintro K2 ⟨l68, s69, x70⟩ a w res2 ⟨v67, hS, hM⟩ hF hN2 hX2
 have hF : S_spec_l2Cut_l2 F p0_s p1_by l68 s69 x70 = some res2 := hF
 have hS : Sl 35 [(0, (Value.string (bs p0_s))), (1, (int IntKind.u8 p1_by)), (5, v67), (6, (Value.string (bs s69))), (7, (int i64 x70))] a := hS
 have hM : Mem Nob w0 w [(true, ow 9 v67 (List.map (fun s => Value.string (bs s)) l68))] := hM
 unfold S_spec_l2Cut_l2 at hF
 refine wp_seq_k fun K94 hK94 => ?_
 refine wp_seq_k fun K96 hK96 => ?_
 refine wp_region_lit ?_
 refine st_val hS rfl rfl (by decide) (rv_move (hS.ev rfl)) fun a hS => ?_
 refine st_val hS rfl rfl (by decide) (rv_move (hS.ev rfl)) fun a hS => ?_
 refine st_val hS rfl rfl (by decide) (rv_len_str Tryd.underlying9 (hS.ev rfl)) fun a hS => ?_
 refine st_val hS rfl rfl (by decide) (rv_lss (hS.ev rfl) (hS.ev rfl)) fun a hS => ?_
 refine wpList_nil ?_
 refine hK96 _ _ ?_
 rcases ite_some hF with ⟨hc, hF⟩ | ⟨hc, hF⟩
 ·refine cond_t hS rfl hc ?_
  refine wp_skip ?_
  refine hK94 _ _ ?_
  refine wp_seq_k fun K97 hK97 => ?_
  have hJ3 : ∀ (l107 : List (List UInt8)) (s108 : List UInt8) (v106 : Value) (a : Act) (w : World), Sl 35 [(0, (Value.string (bs p0_s))), (1, (int IntKind.u8 p1_by)), (5, v106), (6, (Value.string (bs s108))), (7, (int i64 x70))] a → Mem Nob w0 w [(true, ow 9 v106 (List.map (fun s => Value.string (bs s)) l107))] → S_spec_l2Cut_j3 F x70 l107 s108 = some res2 → K97 a w := by
   intro l107 s108 v106 a w hS hM hF
   unfold S_spec_l2Cut_j3 at hF
   refine hK97 _ _ ?_
   refine wp_region_lit ?_
   refine st_val hS rfl rfl (by decide) (rv_move (hS.ev rfl)) fun a hS => ?_
   refine st_val hS rfl rfl (by decide) (rv_add (hS.ev rfl) (hS.ev rfl)) fun a hS => ?_
   refine st_val hS rfl rfl (by decide) (rv_assign (hS.ev rfl)) fun a hS => ?_
   refine wpList_nil ?_
   cases hF
   exact hN2 _ _ _ rfl ⟨v106, (hS.sub (sub_cons rfl (sub_cons rfl (sub_cons rfl (sub_cons rfl (sub_cons rfl sub_nil)))))), (hM.pk [0] (by decide) (pc rfl pn))⟩
  refine wp_block ?_
  refine wp_seq_k fun K109 hK109 => ?_
  refine wp_region_lit ?_
  refine st_val hS rfl rfl (by decide) (rv_move (hS.ev rfl)) fun a hS => ?_
  refine st_val hS rfl rfl (by decide) (rv_move (hS.ev rfl)) fun a hS => ?_
  obtain ⟨x111, hx, hF⟩ := bind_some hF
  obtain ⟨hi0, hi1, hi2⟩ := idxL_some hx
  refine st_val hS rfl rfl (by decide) (rv_index Tryd.underlying9 (hS.ev rfl) (hS.ev rfl) hi0 hi2) fun a hS => ?_
  refine st_val hS rfl rfl (by decide) (rv_move (hS.ev rfl)) fun a hS => ?_
  refine st_val hS rfl rfl (by decide) (rv_eql (hS.ev rfl) (hS.ev rfl)) fun a hS => ?_
  refine wpList_nil ?_
  refine hK109 _ _ ?_
  have hS : Sl 35 [(0, (Value.string (bs p0_s))), (1, (int IntKind.u8 p1_by)), (5, v67), (6, (Value.string (bs s69))), (7, (int i64 x70)), (19, (Value.bool ((x111.toNat : Int) == p1_by)))] a := hS.sub (sub_cons rfl (sub_cons rfl (sub_cons rfl (sub_cons rfl (sub_cons rfl (sub_cons rfl sub_nil))))))
  rcases ite_some hF with ⟨hc, hF⟩ | ⟨hc, hF⟩
  ·refine cond_t hS rfl hc ?_
   refine wp_seq_k fun K112 hK112 => ?_
   refine wp_region_lit ?_
   refine st_val hS rfl rfl (by decide) (rv_move (hS.ev rfl)) fun a hS => ?_
   refine st_val hS rfl rfl (by decide) (rv_move (hS.ev rfl)) fun a hS => ?_
   obtain ⟨v115, w, hr, hM⟩ := Mem.litE (f := (fun s => Value.string (bs s))) (dst := some 22) (ty := _) (pos := _) (af := _) (gd := _) (ps := [(0, .tmp 21)]) ([s69] : List (List UInt8)) str_one hM hS Tryd.underlying75 ty_el_9 rfl rfl rfl rfl
   refine st_val hS rfl rfl (by decide) hr fun a hS => ?_
   obtain ⟨_, hx, hF⟩ := bind_some hF
   have hM := hM.pk [1, 0] (by decide) (pc rfl (pc rfl pn))
   obtain ⟨v116, w, hr, hM⟩ := Mem.appE (f := (fun s => Value.string (bs s))) (S := _) (R := [(true, ow 9 v115 (List.map (fun s => Value.string (bs s)) ([s69] : List (List UInt8))))]) (ρ := a.eval) (dst := some 23) (ty := _) (pos := _) (af := _) (gd := _) (x := .tmp 20) (y := .tmp 22) str_one hM Tryd.underlying75 ty_el_9 rfl (by decide) (hS.ev rfl) (hS.ev rfl) (rd_of_ow (hM.get 1 rfl)) (catO_some hx)
   refine st_val hS rfl rfl (by decide) hr fun a hS => ?_
   refine st_val hS rfl rfl (by decide) (rv_assign (hS.ev rfl)) fun a hS => ?_
   refine wpList_nil ?_
   refine hK112 _ _ ?_
   refine wp_region_lit ?_
   refine st_val hS rfl rfl (by decide) (rv_assign (hS.ev rfl)) fun a hS => ?_
   refine wpList_nil ?_
   exact hJ3 (l68 ++ ([s69] : List (List UInt8))) ([] : List UInt8) v116 _ _ (hS.sub (sub_cons rfl (sub_cons rfl (sub_cons rfl (sub_cons rfl (sub_cons rfl sub_nil)))))) (hM.pk [0] (by decide) (pc rfl pn)) hF
  ·refine cond_f hS rfl hc ?_
   refine wp_region_lit ?_
   refine st_val hS rfl rfl (by decide) (rv_move (hS.ev rfl)) fun a hS => ?_
   refine st_val hS rfl rfl (by decide) (rv_move (hS.ev rfl)) fun a hS => ?_
   refine st_val hS rfl rfl (by decide) (rv_move (hS.ev rfl)) fun a hS => ?_
   refine st_val hS rfl rfl (by decide) (rv_move (hS.ev rfl)) fun a hS => ?_
   refine st_val hS rfl rfl (by decide) (rv_add (hS.ev rfl) (hS.ev rfl)) fun a hS => ?_
   obtain ⟨_, hx, hF⟩ := bind_some hF
   have hi0 := sl2O_some hx
   refine st_val hS rfl rfl (by decide) (rv_sliceS (i := x70) (j := (i64.wrap (x70 + 1))) (k1 := .i64) (k2 := .i64) Tryd.underlying9 (hS.ev rfl) (.inl (congrArg some (hS.ev rfl))) (.inl (congrArg some (hS.ev rfl))) hi0) fun a hS => ?_
   obtain ⟨_, hx, hF⟩ := bind_some hF
   have hi0 := catO_some hx
   refine st_val hS rfl rfl (by decide) (rv_str_add (hS.ev rfl) (hS.ev rfl) hi0) fun a hS => ?_
   refine st_val hS rfl rfl (by decide) (rv_assign (hS.ev rfl)) fun a hS => ?_
   refine wpList_nil ?_
   exact hJ3 l68 (s69 ++ ((p0_s.drop x70.toNat).take ((i64.wrap (x70 + 1)).toNat - x70.toNat))) v67 _ _ (hS.sub (sub_cons rfl (sub_cons rfl (sub_cons rfl (sub_cons rfl (sub_cons rfl sub_nil)))))) (hM.pk [0] (by decide) (pc rfl pn)) hF
 ·refine cond_f hS rfl hc ?_
  refine wp_exit ?_
  cases hF
  exact hJ1 l68 s69 v67 _ _ (hS.sub (sub_cons rfl (sub_cons rfl sub_nil))) (hM.pk [0] (by decide) (pc rfl pn)) (by have e := hX2 _ rfl; subst e; exact hF2)


theorem c_spec_ParseGraph (F : Nat) (p0_s : List UInt8) {r : Int × (List (Int)) × Bool} (hF : S_spec_ParseGraph F p0_s = some r) (w0 : World) :
    Calls Tryd.prog 37 [(Value.string (bs p0_s))].toArray w0 (retPost fun v w' => ∃ v696, v = (Value.tuple #[(Value.agg #[(int i64 r.1), v696]), (Value.bool r.2.2)]) ∧ Mem Nob w0 w' [(true, ow 3 v696 (List.map (int i64) r.2.1))]) := by
 have hM : Mem Nob w0 w0 [] := (Mem.nil w0)
 refine enter2 Tryd.func37 rfl rfl rfl fun Q a hQr hQn hQp hS => ?_
 have hS : Sl 100 [(0, (Value.string (bs p0_s)))] a := hS
 unfold S_spec_ParseGraph at hF
 refine wp_seq_k fun K1 hK1 => ?_
 refine wp_region_lit ?_
 obtain ⟨b3, w, hr, hM⟩ := hM.allocE (ρ := a.eval) (dst := some 2) (ty := _) (pos := _) (af := _) (gd := _) (T := 26) (P := Tryd.prog) [(int i64 0), (Value.slice none 0 0)] ty_zr_26 rfl
 refine st_val hS rfl rfl (by decide) hr fun a hS => ?_
 have hM := hM.addNil 3
 refine st_val hS rfl rfl (by decide) (rv_assign (hS.ev rfl)) fun a hS => ?_
 refine wpList_nil ?_
 refine hK1 _ _ ?_
 refine wp_seq_k fun K4 hK4 => ?_
 refine wp_region_lit ?_
 refine st_val hS rfl rfl (by decide) (rv_move (hS.ev rfl)) fun a hS => ?_
 obtain ⟨r7, hr, hF⟩ := bind_some hF
 refine st_wp hS rfl (wp_call hS rfl rfl (by decide) fn_ok_80 rfl (c_spec_l2Cut F p0_s 32 hr _) fun v8 w a hK hS => ?_)
 have hN := hK
 have hM := hM.add hN rfl
 refine st_val hS rfl rfl (by decide) (rv_assign (hS.ev rfl)) fun a hS => ?_
 refine wpList_nil ?_
 refine hK4 _ _ ?_
 refine wp_seq_k fun K9 hK9 => ?_
 refine wp_seq_k fun K23 hK23 => ?_
 have hJ1 : ∀ (p29 : Bool) (a : Act) (w : World), Sl 100 [(0, (Value.string (bs p0_s))), (2, (fdp b3 0)), (4, v8), (29, (Value.bool p29))] a → Mem Nob w0 w [(true, bx b3 26 [(int i64 0), (Value.slice none 0 0)]), (true, ow 3 (Value.slice none 0 0) (List.map (int i64) ([] : List (Int)))), (true, ow 9 v8 (List.map (fun s => Value.string (bs s)) r7))] → S_spec_ParseGraph_j1 F p0_s r7 p29 = some r → K23 a w := by
  intro p29 a w hS hM hF
  unfold S_spec_ParseGraph_j1 at hF
  refine hK23 _ _ ?_
  rcases ite_some hF with ⟨hc, hF⟩ | ⟨hc, hF⟩
  ·refine cond_t hS rfl hc ?_
   refine wp_seq_k fun K30 hK30 => ?_
   refine wp_region_lit ?_
   refine st_val hS rfl rfl (by decide) (rv_build hS ty_st_26 rfl (by simp) ones_nil) fun a hS => ?_
   obtain ⟨w, hr, hM⟩ := hM.st_agg (us := [(int i64 0), (Value.slice none 0 0)]) (ρ := a.eval) (dst := none) (ty := _) (pos := _) (af := _) (gd := _) (x := .tmp 2) (y := .tmp 30) (hS.ev rfl) (hS.ev rfl) ty_sz_26 (all1_cons rfl (all1_cons rfl all1_nil)) rfl
   refine st_unit hS rfl rfl hr ?_
   have hM := hM.addNil 3
   refine st_val hS rfl rfl (by decide) (rv_assign (hS.ev rfl)) fun a hS => ?_
   refine wpList_nil ?_
   refine hK30 _ _ ?_
   refine wp_ret ?_
   cases hF
   exact hQr _ _ (r_cc hS rfl ⟨_, rfl, run_loadAgg ty_ag_26 (hM.get 1 rfl) ty_sz_26⟩ rfl ⟨(Value.slice none 0 0), rfl, hM.pk [0] (by decide) (pc rfl pn)⟩)
  ·refine cond_f hS rfl hc ?_
   refine wp_skip ?_
   refine hK9 _ _ ?_
   refine wp_seq_k fun K31 hK31 => ?_
   refine wp_region_lit ?_
   refine st_val hS rfl rfl (by decide) (rv_move (hS.ev rfl)) fun a hS => ?_
   obtain ⟨x35, hx, hF⟩ := bind_some hF
   obtain ⟨hi0, hi1, hex35⟩ := idxL_some hx
   refine st_val hS rfl rfl (by decide) (rv_indexAddr Tryd.underlying75 ty_el_9 (hS.ev rfl) (hS.ev rfl) (rd_of_ow (hM.get 2 rfl)) hi0 (map_len hi1)) fun a hS => ?_
   refine st_val hS rfl rfl (by decide) (rv_load_el (hS.ev rfl) ty_ag_9 (rd_of_ow (hM.get 2 rfl)) (mget hex35)) fun a hS => ?_
   obtain ⟨x36, hx, hF⟩ := bind_some hF
   obtain ⟨hi0, hi1, hi2⟩ := idxL_some hx
   refine st_val hS rfl rfl (by decide) (rv_index Tryd.underlying9 (hS.ev rfl) (hS.ev rfl) hi0 hi2) fun a hS => ?_
   refine st_val hS rfl rfl (by decide) (rv_sub (hS.ev rfl) (hS.ev rfl)) fun a hS => ?_
   refine st_val hS rfl rfl (by decide) (rv_conv Tryd.underlying5 Tryd.underlying3 (hS.ev rfl)) fun a hS => ?_
   refine st_val hS rfl rfl (by decide) (rv_build hS ty_st_26 rfl (by simp) (ones_cons (by rw [hS.ev (v := (int i64 (i64.wrap (IntKind.u8.wrap ((x36.toNat : Int) - 48))))) rfl]; rfl) ones_nil)) fun a hS => ?_
   obtain ⟨b37, w, hr, hM⟩ := hM.allocE (ρ := a.eval) (dst := some 5) (ty := _) (pos := _) (af := _) (gd := _) (T := 26) (P := Tryd.prog) [(int i64 0), (Value.slice none 0 0)] ty_zr_26 rfl
   refine st_val hS rfl rfl (by decide) hr fun a hS => ?_
   have hM := hM.addNil 3
   have hM := hM.pk [1, 0, 2, 3, 4] (by decide) (pc rfl (pc rfl (pc rfl (pc rfl (pc rfl pn)))))
   obtain ⟨w, hr, hM⟩ := hM.st_agg (us := [(int i64 (i64.wrap (IntKind.u8.wrap ((x36.toNat : Int) - 48)))), (Value.slice none 0 0)]) (ρ := a.eval) (dst := none) (ty := _) (pos := _) (af := _) (gd := _) (x := .tmp 5) (y := .tmp 37) (hS.ev rfl) (hS.ev rfl) ty_sz_26 (all1_cons rfl (all1_cons rfl all1_nil)) rfl
   refine st_unit hS rfl rfl hr ?_
   have hM := hM.addNil 3
   refine wpList_nil ?_
   refine hK31 _ _ ?_
   have hS : Sl 100 [(0, (Value.string (bs p0_s))), (2, (fdp b3 0)), (4, v8), (5, (fdp b37 0))] a := hS.sub (sub_cons rfl (sub_cons rfl (sub_cons rfl (sub_cons rfl sub_nil))))
   have hM := hM.pk [0, 1, 3, 4, 5] (by decide) (pc rfl (pc rfl (pc rfl (pc rfl (pc rfl pn)))))
   refine wp_seq_k fun K38 hK38 => ?_
   refine wp_region_lit ?_
   refine st_val hS rfl rfl (by decide) (rv_fieldAddr ty_fd_26_0 (hS.ev rfl)) fun a hS => ?_
   refine st_val hS rfl rfl (by decide) (rv_load_bx (hS.ev rfl) ty_ag_3 (hM.get 1 rfl) rfl) fun a hS => ?_
   obtain ⟨_, hx, hF⟩ := bind_some hF
   obtain ⟨v40, w, hr, hM⟩ := hM.makeE (f := (int i64)) (c := (0 : Int)) (ρ := a.eval) (dst := some 40) (ty := _) (pos := _) (af := _) (gd := _) (x := .tmp 39) (y := .tmp 39) Tryd.underlying24 ty_el_3 i64_one (by decide) (hS.ev rfl) (hS.ev rfl) (mkO_some hx)
   refine st_val hS rfl rfl (by decide) hr fun a hS => ?_
   refine st_val hS rfl rfl (by decide) (rv_fieldAddr ty_fd_26_1 (hS.ev rfl)) fun a hS => ?_
   have hM := hM.pk [2, 0, 1, 3, 4, 5] (by decide) (pc rfl (pc rfl (pc rfl (pc rfl (pc rfl (pc rfl pn))))))
   obtain ⟨w, hr, hM⟩ := hM.st_bx1 (n := 1) (cs' := [(int i64 (i64.wrap (IntKind.u8.wrap ((x36.toNat : Int) - 48)))), v40]) (ρ := a.eval) (dst := none) (ty := _) (pos := _) (af := _) (gd := _) (x := .tmp 41) (y := .tmp 40) (hS.ev rfl) (hS.ev rfl) ty_sz_24 (rd_one (rd_of_ow (hM.get 1 rfl))) rfl rfl
   refine st_unit hS rfl rfl hr ?_
   refine wpList_nil ?_
   refine hK38 _ _ ?_
   refine wp_seq_k fun K41 hK41 => ?_
   have hJ2 : ∀ (x360 : Int) (l362 : List Int) (v361 : Value) (a : Act) (w : World), Sl 100 [(0, (Value.string (bs p0_s))), (2, (fdp b3 0)), (5, (fdp b37 0))] a → Mem Nob w0 w [(true, bx b3 26 [(int i64 0), (Value.slice none 0 0)]), (true, ow 3 (Value.slice none 0 0) (List.map (int i64) ([] : List (Int)))), (true, bx b37 26 [(int i64 x360), v361]), (true, ow 3 v361 (List.map (int i64) l362))] → S_spec_ParseGraph_j2 F p0_s x360 l362 = some r → K41 a w := by
    intro x360 l362 v361 a w hS hM hF
    unfold S_spec_ParseGraph_j2 at hF
    refine hK41 _ _ ?_
    refine wp_seq_k fun K363 hK363 => ?_
    refine wp_seq_k fun K368 hK368 => ?_
    refine wp_region_lit ?_
    refine st_val hS rfl rfl (by decide) (rv_load_agg (hS.ev rfl) ty_ag_26 (hM.get 2 rfl) ty_sz_26) fun a hS => ?_
    obtain ⟨r370, hr, hF⟩ := bind_some hF
    refine st_wp hS rfl (wp_call hS rfl rfl (by decide) fn_ok_38 rfl (c_spec_FormatGraph F x360 l362 v361 hr _ (rd_of_ow (hM.get 3 rfl))) fun v w a hK hS => ?_)
    obtain ⟨rfl, hN⟩ := hK
    have hM := hM.fra hN.fr
    refine st_val hS rfl rfl (by decide) (rv_move (hS.ev rfl)) fun a hS => ?_
    refine st_val hS rfl rfl (by decide) (rv_str_neq (hS.ev rfl) (hS.ev rfl)) fun a hS => ?_
    refine wpList_nil ?_
    refine hK368 _ _ ?_
    rcases ite_some hF with ⟨hc, hF⟩ | ⟨hc, hF⟩
    ·refine cond_t hS rfl hc ?_
     refine wp_seq_k fun K371 hK371 => ?_
     refine wp_region_lit ?_
     refine st_val hS rfl rfl (by decide) (rv_build hS ty_st_26 rfl (by simp) ones_nil) fun a hS => ?_
     obtain ⟨w, hr, hM⟩ := hM.st_agg (us := [(int i64 0), (Value.slice none 0 0)]) (ρ := a.eval) (dst := none) (ty := _) (pos := _) (af := _) (gd := _) (x := .tmp 2) (y := .tmp 98) (hS.ev rfl) (hS.ev rfl) ty_sz_26 (all1_cons rfl (all1_cons rfl all1_nil)) rfl
     refine st_unit hS rfl rfl hr ?_
     have hM := hM.addNil 3
     refine st_val hS rfl rfl (by decide) (rv_assign (hS.ev rfl)) fun a hS => ?_
     refine wpList_nil ?_
     refine hK371 _ _ ?_
     have hS : Sl 100 [(2, (fdp b3 0)), (3, (Value.bool false))] a := hS.sub (sub_cons rfl (sub_cons rfl sub_nil))
     have hM := hM.pk [0, 1] (by decide) (pc rfl (pc rfl pn))
     refine wp_ret ?_
     cases hF
     exact hQr _ _ (r_cc hS rfl ⟨_, rfl, run_loadAgg ty_ag_26 (hM.get 1 rfl) ty_sz_26⟩ rfl ⟨(Value.slice none 0 0), rfl, hM.pk [0] (by decide) (pc rfl pn)⟩)
    ·refine cond_f hS rfl hc ?_
     refine wp_skip ?_
     refine hK363 _ _ ?_
     refine wp_seq_k fun K372 hK372 => ?_
     refine wp_region_lit ?_
     refine st_val hS rfl rfl (by decide) (rv_load_agg (hS.ev rfl) ty_ag_26 (hM.get 2 rfl) ty_sz_26) fun a hS => ?_
     obtain ⟨w, hr, hM⟩ := hM.st_agg (us := [(int i64 x360), v361]) (ρ := a.eval) (dst := none) (ty := _) (pos := _) (af := _) (gd := _) (x := .tmp 2) (y := .tmp 99) (hS.ev rfl) (hS.ev rfl) ty_sz_26 (all1_cons rfl (all1_cons (rd_one (rd_of_ow (hM.get 3 rfl))) all1_nil)) rfl
     refine st_unit hS rfl rfl hr ?_
     refine st_val hS rfl rfl (by decide) (rv_assign (hS.ev rfl)) fun a hS => ?_
     refine wpList_nil ?_
     refine hK372 _ _ ?_
     refine wp_ret ?_
     cases hF
     exact hQr _ _ (r_cc hS rfl ⟨_, rfl, run_loadAgg ty_ag_26 (hM.get 0 rfl) ty_sz_26⟩ rfl ⟨v361, rfl, hM.pk [3] (by decide) (pc rfl pn)⟩)
   refine wp_seq_k fun K373 hK373 => ?_
   refine wp_region_lit ?_
   refine st_val hS rfl rfl (by decide) (rv_assign (hS.ev rfl)) fun a hS => ?_
   refine wpList_nil ?_
   refine hK373 _ _ ?_
   refine wp_block ?_
   obtain ⟨lb3, hl3, hF3⟩ := bind_some hF
   refine wp_loop_sh (fun s => S_spec_ParseGraph_l3 F r7 s.1 s.2.1 s.2.2) (fun s a w => ∃ (v480 : Value), Sl 100 [(0, (Value.string (bs p0_s))), (2, (fdp b3 0)), (4, v8), (5, (fdp b37 0)), (6, (int i64 s.2.2))] a ∧ Mem Nob w0 w [(true, bx b3 26 [(int i64 0), (Value.slice none 0 0)]), (true, ow 3 (Value.slice none 0 0) (List.map (int i64) ([] : List (Int)))), (true, ow 9 v8 (List.map (fun s => Value.string (bs s)) r7)), (true, bx b37 26 [(int i64 s.1), v480]), (true, ow 3 v480 (List.map (int i64) s.2.1))]) hl3 ⟨v40, (hS.sub (sub_cons rfl (sub_cons rfl (sub_cons rfl (sub_cons rfl (sub_cons rfl sub_nil)))))), (hM.pk [3, 4, 5, 0, 1] (by decide) (pc rfl (pc rfl (pc rfl (pc rfl (pc rfl pn))))))⟩ ?_
   rintro K3 ⟨x479, l481, x482⟩ a w res3 ⟨v480, hS, hM⟩ hF hN3 hX3
   have hF : S_spec_ParseGraph_l3 F r7 x479 l481 x482 = some res3 := hF
   have hS : Sl 100 [(0, (Value.string (bs p0_s))), (2, (fdp b3 0)), (4, v8), (5, (fdp b37 0)), (6, (int i64 x482))] a := hS
   have hM : Mem Nob w0 w [(true, bx b3 26 [(int i64 0), (Value.slice none 0 0)]), (true, ow 3 (Value.slice none 0 0) (List.map (int i64) ([] : List (Int)))), (true, ow 9 v8 (List.map (fun s => Value.string (bs s)) r7)), (true, bx b37 26 [(int i64 x479), v480]), (true, ow 3 v480 (List.map (int i64) l481))] := hM
   unfold S_spec_ParseGraph_l3 at hF
   refine wp_seq_k fun K587 hK587 => ?_
   refine wp_seq_k fun K589 hK589 => ?_
   refine wp_region_lit ?_
   refine st_val hS rfl rfl (by decide) (rv_move (hS.ev rfl)) fun a hS => ?_
   refine st_val hS rfl rfl (by decide) (rv_move (hS.ev rfl)) fun a hS => ?_
   refine st_val hS rfl rfl (by decide) (rv_len_rowM Tryd.underlying75 (hS.ev rfl) (rd_of_ow (hM.get 2 rfl))) fun a hS => ?_
   refine st_val hS rfl rfl (by decide) (rv_lss (hS.ev rfl) (hS.ev rfl)) fun a hS => ?_
   refine wpList_nil ?_
   refine hK589 _ _ ?_
   rcases ite_some hF with ⟨hc, hF⟩ | ⟨hc, hF⟩
   ·refine cond_t hS rfl hc ?_
    refine wp_skip ?_
    refine hK587 _ _ ?_
    refine wp_seq_k fun K590 hK590 => ?_
    refine wp_block ?_
    refine wp_seq_k fun K641 hK641 => ?_
    refine wp_seq_k fun K655 hK655 => ?_
    have hJ4 : ∀ (p661 : Bool) (a : Act) (w : World), Sl 100 [(0, (Value.string (bs p0_s))), (2, (fdp b3 0)), (4, v8), (5, (fdp b37 0)), (6, (int i64 x482)), (69, (Value.bool p661))] a → Mem Nob w0 w [(true, bx b3 26 [(int i64 0), (Value.slice none 0 0)]), (true, ow 3 (Value.slice none 0 0) (List.map (int i64) ([] : List (Int)))), (true, ow 9 v8 (List.map (fun s => Value.string (bs s)) r7)), (true, bx b37 26 [(int i64 x479), v480]), (true, ow 3 v480 (List.map (int i64) l481))] → S_spec_ParseGraph_j4 F r7 x479 l481 x482 p661 = some res3 → K655 a w := by
     intro p661 a w hS hM hF
     unfold S_spec_ParseGraph_j4 at hF
     refine hK655 _ _ ?_
     rcases ite_some hF with ⟨hc, hF⟩ | ⟨hc, hF⟩
     ·refine cond_t hS rfl hc ?_
      refine wp_seq_k fun K662 hK662 => ?_
      refine wp_region_lit ?_
      refine st_val hS rfl rfl (by decide) (rv_build hS ty_st_26 rfl (by simp) ones_nil) fun a hS => ?_
      obtain ⟨w, hr, hM⟩ := hM.st_agg (us := [(int i64 0), (Value.slice none 0 0)]) (ρ := a.eval) (dst := none) (ty := _) (pos := _) (af := _) (gd := _) (x := .tmp 2) (y := .tmp 70) (hS.ev rfl) (hS.ev rfl) ty_sz_26 (all1_cons rfl (all1_cons rfl all1_nil)) rfl
      refine st_unit hS rfl rfl hr ?_
      have hM := hM.addNil 3
      refine st_val hS rfl rfl (by decide) (rv_assign (hS.ev rfl)) fun a hS => ?_
      refine wpList_nil ?_
      refine hK662 _ _ ?_
      have hS : Sl 100 [(2, (fdp b3 0)), (3, (Value.bool false))] a := hS.sub (sub_cons rfl (sub_cons rfl sub_nil))
      have hM := hM.pk [0, 1] (by decide) (pc rfl (pc rfl pn))
      refine wp_ret ?_
      cases hF
      have e := hX3 _ rfl
      subst e
      have hF := hF3
      cases hF
      exact hQr _ _ (r_cc hS rfl ⟨_, rfl, run_loadAgg ty_ag_26 (hM.get 1 rfl) ty_sz_26⟩ rfl ⟨(Value.slice none 0 0), rfl, hM.pk [0] (by decide) (pc rfl pn)⟩)
     ·refine cond_f hS rfl hc ?_
      refine wp_skip ?_
      refine hK641 _ _ ?_
      refine wp_seq_k fun K663 hK663 => ?_
      have hJ5 : ∀ (x671 : Int) (l673 : List Int) (p674 : Bool) (b670 : Nat) (v672 : Value) (a : Act) (w : World), Sl 100 [(0, (Value.string (bs p0_s))), (2, (fdp b3 0)), (4, v8), (5, (fdp b37 0)), (6, (int i64 x482)), (7, (fdp b670 0)), (8, (Value.bool p674))] a → Mem Nob w0 w [(true, bx b3 26 [(int i64 0), (Value.slice none 0 0)]), (true, ow 3 (Value.slice none 0 0) (List.map (int i64) ([] : List (Int)))), (true, ow 9 v8 (List.map (fun s => Value.string (bs s)) r7)), (true, bx b37 26 [(int i64 x479), v480]), (true, ow 3 v480 (List.map (int i64) l481)), (true, bx b670 26 [(int i64 x671), v672]), (true, ow 3 v672 (List.map (int i64) l673))] → S_spec_ParseGraph_j5 F x482 x671 l673 p674 = some res3 → K663 a w := by
       intro x671 l673 p674 b670 v672 a w hS hM hF
       unfold S_spec_ParseGraph_j5 at hF
       refine hK663 _ _ ?_
       refine wp_seq_k fun K675 hK675 => ?_
       refine wp_seq_k fun K678 hK678 => ?_
       refine wp_region_lit ?_
       refine st_val hS rfl rfl (by decide) (rv_move (hS.ev rfl)) fun a hS => ?_
       refine st_val hS rfl rfl (by decide) (rv_not (hS.ev rfl)) fun a hS => ?_
       refine wpList_nil ?_
       refine hK678 _ _ ?_
       rcases ite_some hF with ⟨hc, hF⟩ | ⟨hc, hF⟩
       ·refine cond_t hS rfl hc ?_
        refine wp_seq_k fun K679 hK679 => ?_
        refine wp_region_lit ?_
        refine st_val hS rfl rfl (by decide) (rv_build hS ty_st_26 rfl (by simp) ones_nil) fun a hS => ?_
        obtain ⟨w, hr, hM⟩ := hM.st_agg (us := [(int i64 0), (Value.slice none 0 0)]) (ρ := a.eval) (dst := none) (ty := _) (pos := _) (af := _) (gd := _) (x := .tmp 2) (y := .tmp 92) (hS.ev rfl) (hS.ev rfl) ty_sz_26 (all1_cons rfl (all1_cons rfl all1_nil)) rfl
        refine st_unit hS rfl rfl hr ?_
        have hM := hM.addNil 3
        refine st_val hS rfl rfl (by decide) (rv_assign (hS.ev rfl)) fun a hS => ?_
        refine wpList_nil ?_
        refine hK679 _ _ ?_
        have hS : Sl 100 [(2, (fdp b3 0)), (3, (Value.bool false))] a := hS.sub (sub_cons rfl (sub_cons rfl sub_nil))
        have hM := hM.pk [0, 1] (by decide) (pc rfl (pc rfl pn))
        refine wp_ret ?_
        cases hF
        have e := hX3 _ rfl
        subst e
        have hF := hF3
        cases hF
        exact hQr _ _ (r_cc hS rfl ⟨_, rfl, run_loadAgg ty_ag_26 (hM.get 1 rfl) ty_sz_26⟩ rfl ⟨(Value.slice none 0 0), rfl, hM.pk [0] (by decide) (pc rfl pn)⟩)
       ·refine cond_f hS rfl hc ?_
        refine wp_skip ?_
        refine hK675 _ _ ?_
        refine wp_region_lit ?_
        refine st_val hS rfl rfl (by decide) (rv_load_agg (hS.ev rfl) ty_ag_26 (hM.get 5 rfl) ty_sz_26) fun a hS => ?_
        have hM := hM.pk [3, 0, 1, 2, 4, 5, 6] (by decide) (pc rfl (pc rfl (pc rfl (pc rfl (pc rfl (pc rfl (pc rfl pn)))))))
        obtain ⟨w, hr, hM⟩ := hM.st_agg (us := [(int i64 x671), v672]) (ρ := a.eval) (dst := none) (ty := _) (pos := _) (af := _) (gd := _) (x := .tmp 5) (y := .tmp 93) (hS.ev rfl) (hS.ev rfl) ty_sz_26 (all1_cons rfl (all1_cons (rd_one (rd_of_ow (hM.get 6 rfl))) all1_nil)) rfl
        refine st_unit hS rfl rfl hr ?_
        refine wpList_nil ?_
        refine hK590 _ _ ?_
        refine wp_region_lit ?_
        refine st_val hS rfl rfl (by decide) (rv_move (hS.ev rfl)) fun a hS => ?_
        refine st_val hS rfl rfl (by decide) (rv_add (hS.ev rfl) (hS.ev rfl)) fun a hS => ?_
        refine st_val hS rfl rfl (by decide) (rv_assign (hS.ev rfl)) fun a hS => ?_
        refine wpList_nil ?_
        cases hF
        exact hN3 _ _ _ rfl ⟨v672, (hS.sub (sub_cons rfl (sub_cons rfl (sub_cons rfl (sub_cons rfl (sub_cons rfl sub_nil)))))), (hM.pk [1, 2, 3, 0, 6] (by decide) (pc rfl (pc rfl (pc rfl (pc rfl (pc rfl pn))))))⟩
      refine an_start Nob ty_mixed fun w hf => ?_
      have hM := hM.fra hf
      have hB := hM
      have hM := hB.reg0
      try dsimp only [ro] at hM
      refine an_take hS (i := 0) rfl (by kernel_rfl) (by kernel_rfl) (by kernel_rfl) rfl (by decide) hQp rfl (fun w' hC' => (rv_load_agg (hS.ev rfl) ty_ag_26 ((hB.fra hC').get 3 rfl) ty_sz_26)) hM.fr fun a hS => ?_
      refine an_take hS (i := 1) rfl (by kernel_rfl) (by kernel_rfl) (by kernel_rfl) rfl (by decide) hQp rfl (fun w' hC' => (rv_move (hS.ev rfl))) hM.fr fun a hS => ?_
      refine an_take hS (i := 2) rfl (by kernel_rfl) (by kernel_rfl) (by kernel_rfl) rfl (by decide) hQp rfl (fun w' hC' => (rv_move (hS.ev rfl))) hM.fr fun a hS => ?_
      obtain ⟨x680, hx, hF⟩ := bind_some hF
      obtain ⟨hi0, hi1, hex680⟩ := idxL_some hx
      refine an_take hS (i := 3) rfl (by kernel_rfl) (by kernel_rfl) (by kernel_rfl) rfl (by decide) hQp rfl (fun w' hC' => (rv_indexAddr Tryd.underlying75 ty_el_9 (hS.ev rfl) (hS.ev rfl) (rd_of_ow (hM.get 2 rfl)) hi0 (map_len hi1))) hM.fr fun a hS => ?_
      refine an_take hS (i := 4) rfl (by kernel_rfl) (by kernel_rfl) (by kernel_rfl) rfl (by decide) hQp rfl (fun w' hC' => (rv_load_el (hS.ev rfl) ty_ag_9 (rd_of_ow ((hB.fra hC').get 2 rfl)) (mget hex680))) hM.fr fun a hS => ?_
      obtain ⟨x681, hx, hF⟩ := bind_some hF
      obtain ⟨hi0, hi1, hi2⟩ := idxL_some hx
      refine an_take hS (i := 5) rfl (by kernel_rfl) (by kernel_rfl) (by kernel_rfl) rfl (by decide) hQp rfl (fun w' hC' => (rv_index Tryd.underlying9 (hS.ev rfl) (hS.ev rfl) hi0 hi2)) hM.fr fun a hS => ?_
      refine an_take hS (i := 6) rfl (by kernel_rfl) (by kernel_rfl) (by kernel_rfl) rfl (by decide) hQp rfl (fun w' hC' => (rv_sub (hS.ev rfl) (hS.ev rfl))) hM.fr fun a hS => ?_
      refine an_take hS (i := 7) rfl (by kernel_rfl) (by kernel_rfl) (by kernel_rfl) rfl (by decide) hQp rfl (fun w' hC' => (rv_conv Tryd.underlying5 Tryd.underlying3 (hS.ev rfl))) hM.fr fun a hS => ?_
      refine an_take hS (i := 8) rfl (by kernel_rfl) (by kernel_rfl) (by kernel_rfl) rfl (by decide) hQp rfl (fun w' hC' => (rv_move (hS.ev rfl))) hM.fr fun a hS => ?_
      refine an_take hS (i := 9) rfl (by kernel_rfl) (by kernel_rfl) (by kernel_rfl) rfl (by decide) hQp rfl (fun w' hC' => (rv_move (hS.ev rfl))) hM.fr fun a hS => ?_
      obtain ⟨x682, hx, hF⟩ := bind_some hF
      obtain ⟨hi0, hi1, hex682⟩ := idxL_some hx
      refine an_take hS (i := 10) rfl (by kernel_rfl) (by kernel_rfl) (by kernel_rfl) rfl (by decide) hQp rfl (fun w' hC' => (rv_indexAddr Tryd.underlying75 ty_el_9 (hS.ev rfl) (hS.ev rfl) (rd_of_ow (hM.get 2 rfl)) hi0 (map_len hi1))) hM.fr fun a hS => ?_
      refine an_take hS (i := 11) rfl (by kernel_rfl) (by kernel_rfl) (by kernel_rfl) rfl (by decide) hQp rfl (fun w' hC' => (rv_load_el (hS.ev rfl) ty_ag_9 (rd_of_ow ((hB.fra hC').get 2 rfl)) (mget hex682))) hM.fr fun a hS => ?_
      obtain ⟨x683, hx, hF⟩ := bind_some hF
      obtain ⟨hi0, hi1, hi2⟩ := idxL_some hx
      refine an_take hS (i := 12) rfl (by kernel_rfl) (by kernel_rfl) (by kernel_rfl) rfl (by decide) hQp rfl (fun w' hC' => (rv_index Tryd.underlying9 (hS.ev rfl) (hS.ev rfl) hi0 hi2)) hM.fr fun a hS => ?_
      refine an_take hS (i := 13) rfl (by kernel_rfl) (by kernel_rfl) (by kernel_rfl) rfl (by decide) hQp rfl (fun w' hC' => (rv_sub (hS.ev rfl) (hS.ev rfl))) hM.fr fun a hS => ?_
      refine an_take hS (i := 14) rfl (by kernel_rfl) (by kernel_rfl) (by kernel_rfl) rfl (by decide) hQp rfl (fun w' hC' => (rv_conv Tryd.underlying5 Tryd.underlying3 (hS.ev rfl))) hM.fr fun a hS => ?_
      refine an_two hS (i := 15) (j := 19) rfl rfl (by kernel_rfl) rfl rfl ?_ ?_
      ·obtain ⟨r87s, hr, hF⟩ := bind_some hF
       refine wp_call hS rfl rfl (by decide) fn_ok_44 rfl (c_spec_AddEdge F x479 l481 (i64.wrap (IntKind.u8.wrap ((x681.toNat : Int) - 48))) (i64.wrap (IntKind.u8.wrap ((x683.toNat : Int) - 48))) v480 hr _ (rd_of_ow (hM.get 4 rfl))) fun v w a hK hS => ?_
       obtain ⟨v684, rfl, hN⟩ := hK
       have hM := hM.add hN rfl
       refine ⟨hM.fr, ?_⟩
       refine an_take hS (i := 16) rfl (by kernel_rfl) (by kernel_rfl) (by kernel_rfl) rfl (by decide) hQp rfl (fun w' hC' => (rv_move (hS.ev rfl))) hM.fr fun a hS => ?_
       refine an_take hS (i := 17) rfl (by kernel_rfl) (by kernel_rfl) (by kernel_rfl) rfl (by decide) hQp rfl (fun w' hC' => (rv_extract (hS.ev rfl) rfl)) hM.fr fun a hS => ?_
       refine an_take hS (i := 18) rfl (by kernel_rfl) (by kernel_rfl) (by kernel_rfl) rfl (by decide) hQp rfl (fun w' hC' => (rv_extract (hS.ev rfl) rfl)) hM.fr fun a hS => ?_
       obtain ⟨b685, w, hr, hM⟩ := hM.allocE (ρ := a.eval) (dst := some 7) (ty := _) (pos := _) (af := _) (gd := _) (T := 26) (P := Tryd.prog) [(int i64 0), (Value.slice none 0 0)] ty_zr_26 rfl
       refine an_one hS (i := 19) rfl (by kernel_rfl) rfl ?_
       refine wp_val hS rfl (by decide) hr fun a hS => ⟨hM.fr, ?_⟩
       have hM := hM.addNil 3
       have hM := hM.pk [1, 0, 2, 3, 4, 5, 6, 7] (by decide) (pc rfl (pc rfl (pc rfl (pc rfl (pc rfl (pc rfl (pc rfl (pc rfl pn))))))))
       obtain ⟨w, hr, hM⟩ := hM.st_agg (us := [(int i64 r87s.1), v684]) (ρ := a.eval) (dst := none) (ty := _) (pos := _) (af := _) (gd := _) (x := .tmp 7) (y := .tmp 88) (hS.ev rfl) (hS.ev rfl) ty_sz_26 (all1_cons rfl (all1_cons (rd_one (rd_of_ow (hM.get 2 rfl))) all1_nil)) rfl
       refine an_one hS (i := 20) rfl (by kernel_rfl) rfl ?_
       refine wp_unit hS rfl hr ⟨hM.fr, ?_⟩
       refine an_take hS (i := 21) rfl (by kernel_rfl) (by kernel_rfl) (by kernel_rfl) rfl (by decide) hQp rfl (fun w' hC' => (rv_assign (hS.ev rfl))) hM.fr fun a hS => ?_
       refine an_done (by kernel_rfl) ?_
       have hN := hM.pk [0, 1, 2] (by decide) (pc rfl (pc rfl (pc rfl pn)))
       have hM := Mem.callo0 hB hN rfl
       exact hJ5 r87s.1 r87s.2.1 r87s.2.2 b685 v684 _ _ (hS.sub (sub_cons rfl (sub_cons rfl (sub_cons rfl (sub_cons rfl (sub_cons rfl (sub_cons rfl (sub_cons rfl sub_nil)))))))) (hM.pk [3, 4, 5, 6, 7, 0, 2] (by decide) (pc rfl (pc rfl (pc rfl (pc rfl (pc rfl (pc rfl (pc rfl pn)))))))) hF
      ·obtain ⟨b684, w, hr, hM⟩ := hM.allocE (ρ := a.eval) (dst := some 7) (ty := _) (pos := _) (af := _) (gd := _) (T := 26) (P := Tryd.prog) [(int i64 0), (Value.slice none 0 0)] ty_zr_26 rfl
       refine wp_val hS rfl (by decide) hr fun a hS => ⟨hM.fr, ?_⟩
       have hM := hM.addNil 3
       obtain ⟨r87s, hr, hF⟩ := bind_some hF
       refine an_one hS (i := 15) rfl (by kernel_rfl) rfl ?_
       refine wp_call hS rfl rfl (by decide) fn_ok_44 rfl (c_spec_AddEdge F x479 l481 (i64.wrap (IntKind.u8.wrap ((x681.toNat : Int) - 48))) (i64.wrap (IntKind.u8.wrap ((x683.toNat : Int) - 48))) v480 hr _ (rd_of_ow (hM.get 6 rfl))) fun v w a hK hS => ?_
       obtain ⟨v685, rfl, hN⟩ := hK
       have hM := hM.add hN rfl
       refine ⟨hM.fr, ?_⟩
       refine an_take hS (i := 16) rfl (by kernel_rfl) (by kernel_rfl) (by kernel_rfl) rfl (by decide) hQp rfl (fun w' hC' => (rv_move (hS.ev rfl))) hM.fr fun a hS => ?_
       refine an_take hS (i := 17) rfl (by kernel_rfl) (by kernel_rfl) (by kernel_rfl) rfl (by decide) hQp rfl (fun w' hC' => (rv_extract (hS.ev rfl) rfl)) hM.fr fun a hS => ?_
       refine an_take hS (i := 18) rfl (by kernel_rfl) (by kernel_rfl) (by kernel_rfl) rfl (by decide) hQp rfl (fun w' hC' => (rv_extract (hS.ev rfl) rfl)) hM.fr fun a hS => ?_
       have hM := hM.pk [2, 0, 1, 3, 4, 5, 6, 7] (by decide) (pc rfl (pc rfl (pc rfl (pc rfl (pc rfl (pc rfl (pc rfl (pc rfl pn))))))))
       obtain ⟨w, hr, hM⟩ := hM.st_agg (us := [(int i64 r87s.1), v685]) (ρ := a.eval) (dst := none) (ty := _) (pos := _) (af := _) (gd := _) (x := .tmp 7) (y := .tmp 88) (hS.ev rfl) (hS.ev rfl) ty_sz_26 (all1_cons rfl (all1_cons (rd_one (rd_of_ow (hM.get 1 rfl))) all1_nil)) rfl
       refine an_one hS (i := 20) rfl (by kernel_rfl) rfl ?_
       refine wp_unit hS rfl hr ⟨hM.fr, ?_⟩
       refine an_take hS (i := 21) rfl (by kernel_rfl) (by kernel_rfl) (by kernel_rfl) rfl (by decide) hQp rfl (fun w' hC' => (rv_assign (hS.ev rfl))) hM.fr fun a hS => ?_
       refine an_done (by kernel_rfl) ?_
       have hN := hM.pk [0, 1, 2] (by decide) (pc rfl (pc rfl (pc rfl pn)))
       have hM := Mem.callo0 hB hN rfl
       exact hJ5 r87s.1 r87s.2.1 r87s.2.2 b684 v685 _ _ (hS.sub (sub_cons rfl (sub_cons rfl (sub_cons rfl (sub_cons rfl (sub_cons rfl (sub_cons rfl (sub_cons rfl sub_nil)))))))) (hM.pk [3, 4, 5, 6, 7, 0, 1] (by decide) (pc rfl (pc rfl (pc rfl (pc rfl (pc rfl (pc rfl (pc rfl pn)))))))) hF
    refine wp_region_lit ?_
    refine st_val hS rfl rfl (by decide) (rv_move (hS.ev rfl)) fun a hS => ?_
    refine st_val hS rfl rfl (by decide) (rv_move (hS.ev rfl)) fun a hS => ?_
    obtain ⟨x686, hx, hF⟩ := bind_some hF
    obtain ⟨hi0, hi1, hex686⟩ := idxL_some hx
    refine st_val hS rfl rfl (by decide) (rv_indexAddr Tryd.underlying75 ty_el_9 (hS.ev rfl) (hS.ev rfl) (rd_of_ow (hM.get 2 rfl)) hi0 (map_len hi1)) fun a hS => ?_
    refine st_val hS rfl rfl (by decide) (rv_load_el (hS.ev rfl) ty_ag_9 (rd_of_ow (hM.get 2 rfl)) (mget hex686)) fun a hS => ?_
    refine st_val hS rfl rfl (by decide) (rv_len_str Tryd.underlying9 (hS.ev rfl)) fun a hS => ?_
    refine st_val hS rfl rfl (by decide) (rv_neq (hS.ev rfl) (hS.ev rfl)) fun a hS => ?_
    refine st_val hS rfl rfl (by decide) (rv_move (hS.ev rfl)) fun a hS => ?_
    rcases ite_some hF with ⟨hc, hF⟩ | ⟨hc, hF⟩
    ·have hS := hS.setb (t := 54) rfl hc
     refine st_skip hS rfl rfl (by decide) fun a hS => ?_
     refine st_skip hS rfl rfl (by decide) fun a hS => ?_
     refine st_skip hS rfl rfl (by decide) fun a hS => ?_
     refine st_skip hS rfl rfl (by decide) fun a hS => ?_
     refine st_skip hS rfl rfl (by decide) fun a hS => ?_
     refine st_skip hS rfl rfl (by decide) fun a hS => ?_
     refine st_val hS rfl rfl (by decide) (rv_pick_t (hS.ev rfl) (hS.ev rfl)) fun a hS => ?_
     refine st_val hS rfl rfl (by decide) (rv_move (hS.ev rfl)) fun a hS => ?_
     refine st_skip hS rfl rfl (by decide) fun a hS => ?_
     refine st_skip hS rfl rfl (by decide) fun a hS => ?_
     refine st_skip hS rfl rfl (by decide) fun a hS => ?_
     refine st_skip hS rfl rfl (by decide) fun a hS => ?_
     refine st_skip hS rfl rfl (by decide) fun a hS => ?_
     refine st_skip hS rfl rfl (by decide) fun a hS => ?_
     refine st_val hS rfl rfl (by decide) (rv_pick_t (hS.ev rfl) (hS.ev rfl)) fun a hS => ?_
     refine wpList_nil ?_
     exact hJ4 true _ _ (hS.sub (sub_cons rfl (sub_cons rfl (sub_cons rfl (sub_cons rfl (sub_cons rfl (sub_cons rfl sub_nil))))))) (hM.pk [0, 1, 2, 3, 4] (by decide) (pc rfl (pc rfl (pc rfl (pc rfl (pc rfl pn)))))) hF
    ·have hS := hS.setb (t := 54) rfl hc
     refine st_val hS rfl rfl (by decide) (rv_move (hS.ev rfl)) fun a hS => ?_
     refine st_val hS rfl rfl (by decide) (rv_move (hS.ev rfl)) fun a hS => ?_
     obtain ⟨x687, hx, hF⟩ := bind_some hF
     obtain ⟨hi0, hi1, hex687⟩ := idxL_some hx
     refine st_val hS rfl rfl (by decide) (rv_indexAddr Tryd.underlying75 ty_el_9 (hS.ev rfl) (hS.ev rfl) (rd_of_ow (hM.get 2 rfl)) hi0 (map_len hi1)) fun a hS => ?_
     refine st_val hS rfl rfl (by decide) (rv_load_el (hS.ev rfl) ty_ag_9 (rd_of_ow (hM.get 2 rfl)) (mget hex687)) fun a hS => ?_
     obtain ⟨x688, hx, hF⟩ := bind_some hF
     obtain ⟨hi0, hi1, hi2⟩ := idxL_some hx
     refine st_val hS rfl rfl (by decide) (rv_index Tryd.underlying9 (hS.ev rfl) (hS.ev rfl) hi0 hi2) fun a hS => ?_
     refine st_val hS rfl rfl (by decide) (rv_lss (hS.ev rfl) (hS.ev rfl)) fun a hS => ?_
     refine st_val hS rfl rfl (by decide) (rv_pick_f (hS.ev rfl) (hS.ev rfl)) fun a hS => ?_
     refine st_val hS rfl rfl (by decide) (rv_move (hS.ev rfl)) fun a hS => ?_
     rcases ite_some hF with ⟨hc, hF⟩ | ⟨hc, hF⟩
     ·have hS := hS.setb (t := 62) rfl hc
      refine st_skip hS rfl rfl (by decide) fun a hS => ?_
      refine st_skip hS rfl rfl (by decide) fun a hS => ?_
      refine st_skip hS rfl rfl (by decide) fun a hS => ?_
      refine st_skip hS rfl rfl (by decide) fun a hS => ?_
      refine st_skip hS rfl rfl (by decide) fun a hS => ?_
      refine st_skip hS rfl rfl (by decide) fun a hS => ?_
      refine st_val hS rfl rfl (by decide) (rv_pick_t (hS.ev rfl) (hS.ev rfl)) fun a hS => ?_
      refine wpList_nil ?_
      exact hJ4 true _ _ (hS.sub (sub_cons rfl (sub_cons rfl (sub_cons rfl (sub_cons rfl (sub_cons rfl (sub_cons rfl sub_nil))))))) (hM.pk [0, 1, 2, 3, 4] (by decide) (pc rfl (pc rfl (pc rfl (pc rfl (pc rfl pn)))))) hF
     ·have hS := hS.setb (t := 62) rfl hc
      refine st_val hS rfl rfl (by decide) (rv_move (hS.ev rfl)) fun a hS => ?_
      refine st_val hS rfl rfl (by decide) (rv_move (hS.ev rfl)) fun a hS => ?_
      obtain ⟨x689, hx, hF⟩ := bind_some hF
      obtain ⟨hi0, hi1, hex689⟩ := idxL_some hx
      refine st_val hS rfl rfl (by decide) (rv_indexAddr Tryd.underlying75 ty_el_9 (hS.ev rfl) (hS.ev rfl) (rd_of_ow (hM.get 2 rfl)) hi0 (map_len hi1)) fun a hS => ?_
      refine st_val hS rfl rfl (by decide) (rv_load_el (hS.ev rfl) ty_ag_9 (rd_of_ow (hM.get 2 rfl)) (mget hex689)) fun a hS => ?_
      obtain ⟨x690, hx, hF⟩ := bind_some hF
      obtain ⟨hi0, hi1, hi2⟩ := idxL_some hx
      refine st_val hS rfl rfl (by decide) (rv_index Tryd.underlying9 (hS.ev rfl) (hS.ev rfl) hi0 hi2) fun a hS => ?_
      refine st_val hS rfl rfl (by decide) (rv_lss (hS.ev rfl) (hS.ev rfl)) fun a hS => ?_
      refine st_val hS rfl rfl (by decide) (rv_pick_f (hS.ev rfl) (hS.ev rfl)) fun a hS => ?_
      refine wpList_nil ?_
      exact hJ4 (decide ((x690.toNat : Int) < 48)) _ _ (hS.sub (sub_cons rfl (sub_cons rfl (sub_cons rfl (sub_cons rfl (sub_cons rfl (sub_cons rfl sub_nil))))))) (hM.pk [0, 1, 2, 3, 4] (by decide) (pc rfl (pc rfl (pc rfl (pc rfl (pc rfl pn)))))) hF
   ·refine cond_f hS rfl hc ?_
    refine wp_exit ?_
    cases hF
    exact hJ2 x479 l481 v480 _ _ (hS.sub (sub_cons rfl (sub_cons rfl (sub_cons rfl sub_nil)))) (hM.pk [0, 1, 3, 4] (by decide) (pc rfl (pc rfl (pc rfl (pc rfl pn))))) (by have e := hX3 _ rfl; subst e; exact hF3)
 refine wp_region_lit ?_
 refine st_val hS rfl rfl (by decide) (rv_move (hS.ev rfl)) fun a hS => ?_
 obtain ⟨x691, hx, hF⟩ := bind_some hF
 obtain ⟨hi0, hi1, hex691⟩ := idxL_some hx
 refine st_val hS rfl rfl (by decide) (rv_indexAddr Tryd.underlying75 ty_el_9 (hS.ev rfl) (hS.ev rfl) (rd_of_ow (hM.get 0 rfl)) hi0 (map_len hi1)) fun a hS => ?_
 refine st_val hS rfl rfl (by decide) (rv_load_el (hS.ev rfl) ty_ag_9 (rd_of_ow (hM.get 0 rfl)) (mget hex691)) fun a hS => ?_
 refine st_val hS rfl rfl (by decide) (rv_len_str Tryd.underlying9 (hS.ev rfl)) fun a hS => ?_
 refine st_val hS rfl rfl (by decide) (rv_neq (hS.ev rfl) (hS.ev rfl)) fun a hS => ?_
 refine st_val hS rfl rfl (by decide) (rv_move (hS.ev rfl)) fun a hS => ?_
 rcases ite_some hF with ⟨hc, hF⟩ | ⟨hc, hF⟩
 ·have hS := hS.setb (t := 16) rfl hc
  refine st_skip hS rfl rfl (by decide) fun a hS => ?_
  refine st_skip hS rfl rfl (by decide) fun a hS => ?_
  refine st_skip hS rfl rfl (by decide) fun a hS => ?_
  refine st_skip hS rfl rfl (by decide) fun a hS => ?_
  refine st_skip hS rfl rfl (by decide) fun a hS => ?_
  refine st_val hS rfl rfl (by decide) (rv_pick_t (hS.ev rfl) (hS.ev rfl)) fun a hS => ?_
  refine st_val hS rfl rfl (by decide) (rv_move (hS.ev rfl)) fun a hS => ?_
  refine st_skip hS rfl rfl (by decide) fun a hS => ?_
  refine st_skip hS rfl rfl (by decide) fun a hS => ?_
  refine st_skip hS rfl rfl (by decide) fun a hS => ?_
  refine st_skip hS rfl rfl (by decide) fun a hS => ?_
  refine st_skip hS rfl rfl (by decide) fun a hS => ?_
  refine st_val hS rfl rfl (by decide) (rv_pick_t (hS.ev rfl) (hS.ev rfl)) fun a hS => ?_
  refine wpList_nil ?_
  exact hJ1 true _ _ (hS.sub (sub_cons rfl (sub_cons rfl (sub_cons rfl (sub_cons rfl sub_nil))))) (hM.pk [2, 1, 0] (by decide) (pc rfl (pc rfl (pc rfl pn)))) hF
 ·have hS := hS.setb (t := 16) rfl hc
  refine st_val hS rfl rfl (by decide) (rv_move (hS.ev rfl)) fun a hS => ?_
  obtain ⟨x692, hx, hF⟩ := bind_some hF
  obtain ⟨hi0, hi1, hex692⟩ := idxL_some hx
  refine st_val hS rfl rfl (by decide) (rv_indexAddr Tryd.underlying75 ty_el_9 (hS.ev rfl) (hS.ev rfl) (rd_of_ow (hM.get 0 rfl)) hi0 (map_len hi1)) fun a hS => ?_
  refine st_val hS rfl rfl (by decide) (rv_load_el (hS.ev rfl) ty_ag_9 (rd_of_ow (hM.get 0 rfl)) (mget hex692)) fun a hS => ?_
  obtain ⟨x693, hx, hF⟩ := bind_some hF
  obtain ⟨hi0, hi1, hi2⟩ := idxL_some hx
  refine st_val hS rfl rfl (by decide) (rv_index Tryd.underlying9 (hS.ev rfl) (hS.ev rfl) hi0 hi2) fun a hS => ?_
  refine st_val hS rfl rfl (by decide) (rv_lss (hS.ev rfl) (hS.ev rfl)) fun a hS => ?_
  refine st_val hS rfl rfl (by decide) (rv_pick_f (hS.ev rfl) (hS.ev rfl)) fun a hS => ?_
  refine st_val hS rfl rfl (by decide) (rv_move (hS.ev rfl)) fun a hS => ?_
  rcases ite_some hF with ⟨hc, hF⟩ | ⟨hc, hF⟩
  ·have hS := hS.setb (t := 23) rfl hc
   refine st_skip hS rfl rfl (by decide) fun a hS => ?_
   refine st_skip hS rfl rfl (by decide) fun a hS => ?_
   refine st_skip hS rfl rfl (by decide) fun a hS => ?_
   refine st_skip hS rfl rfl (by decide) fun a hS => ?_
   refine st_skip hS rfl rfl (by decide) fun a hS => ?_
   refine st_val hS rfl rfl (by decide) (rv_pick_t (hS.ev rfl) (hS.ev rfl)) fun a hS => ?_
   refine wpList_nil ?_
   exact hJ1 true _ _ (hS.sub (sub_cons rfl (sub_cons rfl (sub_cons rfl (sub_cons rfl sub_nil))))) (hM.pk [2, 1, 0] (by decide) (pc rfl (pc rfl (pc rfl pn)))) hF
  ·have hS := hS.setb (t := 23) rfl hc
   refine st_val hS rfl rfl (by decide) (rv_move (hS.ev rfl)) fun a hS => ?_
   obtain ⟨x694, hx, hF⟩ := bind_some hF
   obtain ⟨hi0, hi1, hex694⟩ := idxL_some hx
   refine st_val hS rfl rfl (by decide) (rv_indexAddr Tryd.underlying75 ty_el_9 (hS.ev rfl) (hS.ev rfl) (rd_of_ow (hM.get 0 rfl)) hi0 (map_len hi1)) fun a hS => ?_
   refine st_val hS rfl rfl (by decide) (rv_load_el (hS.ev rfl) ty_ag_9 (rd_of_ow (hM.get 0 rfl)) (mget hex694)) fun a hS => ?_
   obtain ⟨x695, hx, hF⟩ := bind_some hF
   obtain ⟨hi0, hi1, hi2⟩ := idxL_some hx
   refine st_val hS rfl rfl (by decide) (rv_index Tryd.underlying9 (hS.ev rfl) (hS.ev rfl) hi0 hi2) fun a hS => ?_
   refine st_val hS rfl rfl (by decide) (rv_gtr (hS.ev rfl) (hS.ev rfl)) fun a hS => ?_
   refine st_val hS rfl rfl (by decide) (rv_pick_f (hS.ev rfl) (hS.ev rfl)) fun a hS => ?_
   refine wpList_nil ?_
   exact hJ1 (decide ((55 : Int) < (x695.toNat : Int))) _ _ (hS.sub (sub_cons rfl (sub_cons rfl (sub_cons rfl (sub_cons rfl sub_nil))))) (hM.pk [2, 1, 0] (by decide) (pc rfl (pc rfl (pc rfl pn)))) hF


theorem c_impl_all (F : Nat) (p0_g_Size : Int) (p0_g_Rows : List Int) (p0_g_Rowsv : Value) {r : Int} (hF : S_impl_all F p0_g_Size p0_g_Rows = some r) (w0 : World) (h0 : RdRow w0 p0_g_Rowsv (List.map (int i64) p0_g_Rows)) :
    Calls Tryd.prog 62 [(Value.agg #[(int i64 p0_g_Size), p0_g_Rowsv])].toArray w0 (retPost fun v w' => v = (int i64 r) ∧ Mem Nob w0 w' []) := by
 have hM : Mem Nob w0 w0 [(false, rd p0_g_Rowsv (List.map (int i64) p0_g_Rows))] := (Mem.rcons (Mem.nil w0) h0 (by simp))
 refine enter2 Tryd.func62 rfl rfl rfl fun Q a hQr hQn hQp hS => ?_
 have hS : Sl 7 [(0, (Value.agg #[(int i64 p0_g_Size), p0_g_Rowsv]))] a := hS
 unfold S_impl_all at hF
 refine wp_seq_k fun K1 hK1 => ?_
 refine wp_region_lit ?_
 obtain ⟨b3, w, hr, hM⟩ := hM.boxE (ρ := a.eval) (dst := some 1) (ty := _) (pos := _) (af := _) (gd := _) (x := .tmp 0) (T := 26) [(int i64 p0_g_Size), p0_g_Rowsv] (hS.ev rfl) rfl
 refine st_val hS rfl rfl (by decide) hr fun a hS => ?_
 refine st_val hS rfl rfl (by decide) (rv_assign (hS.ev rfl)) fun a hS => ?_
 refine wpList_nil ?_
 refine hK1 _ _ ?_
 refine wp_seq_k fun K4 hK4 => ?_
 refine wp_region_lit ?_
 refine st_val hS rfl rfl (by decide) (rv_fieldAddr ty_fd_26_0 (hS.ev rfl)) fun a hS => ?_
 refine st_val hS rfl rfl (by decide) (rv_load_bx (hS.ev rfl) ty_ag_3 (hM.get 0 rfl) rfl) fun a hS => ?_
 obtain ⟨_, hx, hF⟩ := bind_some hF
 have hi0 := nnO_some hx
 refine st_val hS rfl rfl (by decide) (rv_shl (hS.ev rfl) (hS.ev rfl) hi0) fun a hS => ?_
 refine st_val hS rfl rfl (by decide) (rv_sub (hS.ev rfl) (hS.ev rfl)) fun a hS => ?_
 refine st_val hS rfl rfl (by decide) (rv_assign (hS.ev rfl)) fun a hS => ?_
 refine wpList_nil ?_
 refine hK4 _ _ ?_
 refine wp_ret ?_
 cases hF
 exact hQr _ _ (r_1 hS rfl rfl ⟨rfl, hM.pk [] (by decide) pn⟩)


theorem c_impl_copyGraph (F : Nat) (p0_g_Size : Int) (p0_g_Rows : List Int) (p0_g_Rowsv : Value) {r : Int × (List (Int))} (hF : S_impl_copyGraph F p0_g_Size p0_g_Rows = some r) (w0 : World) (h0 : RdRow w0 p0_g_Rowsv (List.map (int i64) p0_g_Rows)) :
    Calls Tryd.prog 81 [(Value.agg #[(int i64 p0_g_Size), p0_g_Rowsv])].toArray w0 (retPost fun v w' => ∃ v11, v = (Value.agg #[(int i64 r.1), v11]) ∧ Mem Nob w0 w' [(true, ow 3 v11 (List.map (int i64) r.2))]) := by
 have hM : Mem Nob w0 w0 [(false, rd p0_g_Rowsv (List.map (int i64) p0_g_Rows))] := (Mem.rcons (Mem.nil w0) h0 (by simp))
 refine enter2 Tryd.func81 rfl rfl rfl fun Q a hQr hQn hQp hS => ?_
 have hS : Sl 10 [(0, (Value.agg #[(int i64 p0_g_Size), p0_g_Rowsv]))] a := hS
 unfold S_impl_copyGraph at hF
 refine wp_seq_k fun K1 hK1 => ?_
 refine wp_region_lit ?_
 obtain ⟨b4, w, hr, hM⟩ := hM.boxE (ρ := a.eval) (dst := some 1) (ty := _) (pos := _) (af := _) (gd := _) (x := .tmp 0) (T := 26) [(int i64 p0_g_Size), p0_g_Rowsv] (hS.ev rfl) rfl
 refine st_val hS rfl rfl (by decide) hr fun a hS => ?_
 obtain ⟨b5, w, hr, hM⟩ := hM.allocE (ρ := a.eval) (dst := some 2) (ty := _) (pos := _) (af := _) (gd := _) (T := 26) (P := Tryd.prog) [(int i64 0), (Value.slice none 0 0)] ty_zr_26 rfl
 refine st_val hS rfl rfl (by decide) hr fun a hS => ?_
 have hM := hM.addNil 3
 refine wpList_nil ?_
 refine hK1 _ _ ?_
 refine wp_seq_k fun K6 hK6 => ?_
 have hM := hM.pk [1, 0, 2, 3] (by decide) (pc rfl (pc rfl (pc rfl (pc rfl pn))))
 refine an_startB 8 (feet [(true, bx b5 26 [(int i64 0), (Value.slice none 0 0)])]) ty_mixed (by kernel_rfl) fun w hf => ?_
 have hM := hM.fra hf
 have hB := hM
 have hM := hB.reg1 rfl
 refine tkB hS 0 1 (by kernel_rfl) rfl rfl rfl hQp rfl (fun w' hC' => (rv_fieldAddr ty_fd_26_0 (hS.ev rfl))) hM.fr fun a hS => ?_
 refine tkB hS 1 3 (by kernel_rfl) rfl rfl rfl hQp rfl (fun w' hC' => (rv_load_bx (hS.ev rfl) ty_ag_3 (hB.getF rfl 1 rfl hC') rfl)) hM.fr fun a hS => ?_
 refine tkB hS 3 11 (by kernel_rfl) rfl rfl rfl hQp rfl (fun w' hC' => (rv_fieldAddr ty_fd_26_1 (hS.ev rfl))) hM.fr fun a hS => ?_
 refine tkB hS 4 27 (by kernel_rfl) rfl rfl rfl hQp rfl (fun w' hC' => (rv_load_bx (hS.ev rfl) ty_ag_24 (hB.getF rfl 1 rfl hC') rfl)) hM.fr fun a hS => ?_
 obtain ⟨v9, w, hr, hM⟩ := Mem.litE (f := (int i64)) (dst := some 5) (ty := _) (pos := _) (af := _) (gd := _) (ps := []) ([] : List (Int)) i64_one hM hS Tryd.underlying24 ty_el_3 rfl rfl rfl rfl
 refine an_oneB hS (i := 2) 31 (by kernel_rfl) rfl (by kernel_rfl) rfl ?_
 refine wp_val hS rfl (by decide) hr fun a hS => ⟨hM.fr, ?_⟩
 obtain ⟨_, hx, hF⟩ := bind_some hF
 obtain ⟨v10, w, hr, hM⟩ := Mem.appE (f := (int i64)) (S := _) (R := [(true, bx b5 26 [(int i64 0), (Value.slice none 0 0)]), (false, ow 3 (Value.slice none 0 0) (List.map (int i64) ([] : List (Int)))), (false, bx b4 26 [(int i64 p0_g_Size), p0_g_Rowsv]), (false, rd p0_g_Rowsv (List.map (int i64) p0_g_Rows))]) (ρ := a.eval) (dst := some 8) (ty := _) (pos := _) (af := _) (gd := _) (x := .tmp 5) (y := .tmp 7) i64_one hM Tryd.underlying24 ty_el_3 rfl (by decide) (hS.ev rfl) (hS.ev rfl) (hM.get 4 rfl) (catO_some hx)
 refine an_oneB hS (i := 5) 63 (by kernel_rfl) rfl (by kernel_rfl) rfl ?_
 refine wp_val hS rfl (by decide) hr fun a hS => ⟨hM.fr, ?_⟩
 refine tkB hS 6 127 (by kernel_rfl) rfl rfl rfl hQp rfl (fun w' hC' => (rv_build hS ty_st_26 rfl (by simp) (ones_cons (by rw [hS.ev (v := (int i64 p0_g_Size)) rfl]; rfl) (ones_cons (by rw [hS.ev (v := v10) rfl]; exact rd_one (rd_of_ow (hM.get 0 rfl))) ones_nil)))) hM.fr fun a hS => ?_
 have hM := hM.pk [1, 0, 2, 3, 4] (by decide) (pc rfl (pc rfl (pc rfl (pc rfl (pc rfl pn)))))
 obtain ⟨w, hr, hM⟩ := hM.st_agg (us := [(int i64 p0_g_Size), v10]) (ρ := a.eval) (dst := none) (ty := _) (pos := _) (af := _) (gd := _) (x := .tmp 2) (y := .tmp 9) (hS.ev rfl) (hS.ev rfl) ty_sz_26 (all1_cons rfl (all1_cons (rd_one (rd_of_ow (hM.get 1 rfl))) all1_nil)) rfl
 refine an_oneB hS (i := 7) 255 (by kernel_rfl) rfl (by kernel_rfl) rfl ?_
 refine wp_unit hS rfl hr ⟨hM.fr, ?_⟩
 refine an_done (by kernel_rfl) ?_
 have hN := hM.pk [0, 1] (by decide) (pc rfl (pc rfl pn))
 have hM := Mem.callo (A := [(true, bx b5 26 [(int i64 0), (Value.slice none 0 0)])]) (B := [(true, ow 3 (Value.slice none 0 0) (List.map (int i64) ([] : List (Int)))), (true, bx b4 26 [(int i64 p0_g_Size), p0_g_Rowsv]), (false, rd p0_g_Rowsv (List.map (int i64) p0_g_Rows))]) hB rfl (hN.memS fun _ h => h) rfl
 refine hK6 _ _ ?_
 have hS : Sl 10 [(2, (fdp b5 0))] a := hS.sub (sub_cons rfl sub_nil)
 have hM := hM.pk [0, 1] (by decide) (pc rfl (pc rfl pn))
 refine wp_ret ?_
 cases hF
 exact hQr _ _ (r_c hS rfl ⟨_, rfl, run_loadAgg ty_ag_26 (hM.get 0 rfl) ty_sz_26⟩ ⟨v10, rfl, hM.pk [1] (by decide) (pc rfl pn)⟩)


theorem c_impl_ComplementOf (F : Nat) (p0_g_Size : Int) (p0_g_Rows : List Int) (p0_g_Rowsv : Value) {r : Int × (List (Int)) × Bool} (hF : S_impl_ComplementOf F p0_g_Size p0_g_Rows = some r) (w0 : World) (h0 : RdRow w0 p0_g_Rowsv (List.map (int i64) p0_g_Rows)) :
    Calls Tryd.prog 41 [(Value.agg #[(int i64 p0_g_Size), p0_g_Rowsv])].toArray w0 (retPost fun v w' => ∃ v99, v = (Value.tuple #[(Value.agg #[(int i64 r.1), v99]), (Value.bool r.2.2)]) ∧ Mem Nob w0 w' [(true, ow 3 v99 (List.map (int i64) r.2.1))]) := by
 have hM : Mem Nob w0 w0 [(false, rd p0_g_Rowsv (List.map (int i64) p0_g_Rows))] := (Mem.rcons (Mem.nil w0) h0 (by simp))
 refine enter2 Tryd.func41 rfl rfl rfl fun Q a hQr hQn hQp hS => ?_
 have hS : Sl 35 [(0, (Value.agg #[(int i64 p0_g_Size), p0_g_Rowsv]))] a := hS
 unfold S_impl_ComplementOf at hF
 refine wp_seq_k fun K1 hK1 => ?_
 refine wp_region_lit ?_
 obtain ⟨b4, w, hr, hM⟩ := hM.boxE (ρ := a.eval) (dst := some 1) (ty := _) (pos := _) (af := _) (gd := _) (x := .tmp 0) (T := 26) [(int i64 p0_g_Size), p0_g_Rowsv] (hS.ev rfl) rfl
 refine st_val hS rfl rfl (by decide) hr fun a hS => ?_
 obtain ⟨b5, w, hr, hM⟩ := hM.allocE (ρ := a.eval) (dst := some 2) (ty := _) (pos := _) (af := _) (gd := _) (T := 26) (P := Tryd.prog) [(int i64 0), (Value.slice none 0 0)] ty_zr_26 rfl
 refine st_val hS rfl rfl (by decide) hr fun a hS => ?_
 have hM := hM.addNil 3
 refine st_val hS rfl rfl (by decide) (rv_assign (hS.ev rfl)) fun a hS => ?_
 refine wpList_nil ?_
 refine hK1 _ _ ?_
 refine wp_seq_k fun K6 hK6 => ?_
 refine wp_seq_k fun K11 hK11 => ?_
 refine wp_region_lit ?_
 refine st_val hS rfl rfl (by decide) (rv_load_agg (hS.ev rfl) ty_ag_26 (hM.get 2 rfl) ty_sz_26) fun a hS => ?_
 obtain ⟨r13, hr, hF⟩ := bind_some hF
 refine st_wp hS rfl (wp_call hS rfl rfl (by decide) fn_ok_40 rfl (c_impl_IsGraph F p0_g_Size p0_g_Rows p0_g_Rowsv hr _ (hM.get 3 rfl)) fun v w a hK hS => ?_)
 obtain ⟨rfl, hN⟩ := hK
 have hM := hM.fra hN.fr
 refine st_val hS rfl rfl (by decide) (rv_not (hS.ev rfl)) fun a hS => ?_
 refine wpList_nil ?_
 refine hK11 _ _ ?_
 rcases ite_some hF with ⟨hc, hF⟩ | ⟨hc, hF⟩
 ·refine cond_t hS rfl hc ?_
  refine wp_seq_k fun K14 hK14 => ?_
  refine wp_region_lit ?_
  refine st_val hS rfl rfl (by decide) (rv_build hS ty_st_26 rfl (by simp) ones_nil) fun a hS => ?_
  have hM := hM.pk [1, 0, 2, 3] (by decide) (pc rfl (pc rfl (pc rfl (pc rfl pn))))
  obtain ⟨w, hr, hM⟩ := hM.st_agg (us := [(int i64 0), (Value.slice none 0 0)]) (ρ := a.eval) (dst := none) (ty := _) (pos := _) (af := _) (gd := _) (x := .tmp 2) (y := .tmp 9) (hS.ev rfl) (hS.ev rfl) ty_sz_26 (all1_cons rfl (all1_cons rfl all1_nil)) rfl
  refine st_unit hS rfl rfl hr ?_
  have hM := hM.addNil 3
  refine st_val hS rfl rfl (by decide) (rv_assign (hS.ev rfl)) fun a hS => ?_
  refine wpList_nil ?_
  refine hK14 _ _ ?_
  have hS : Sl 35 [(2, (fdp b5 0)), (3, (Value.bool false))] a := hS.sub (sub_cons rfl (sub_cons rfl sub_nil))
  have hM := hM.pk [0, 1] (by decide) (pc rfl (pc rfl pn))
  refine wp_ret ?_
  cases hF
  exact hQr _ _ (r_cc hS rfl ⟨_, rfl, run_loadAgg ty_ag_26 (hM.get 1 rfl) ty_sz_26⟩ rfl ⟨(Value.slice none 0 0), rfl, hM.pk [0] (by decide) (pc rfl pn)⟩)
 ·refine cond_f hS rfl hc ?_
  refine wp_skip ?_
  refine hK6 _ _ ?_
  refine wp_seq_k fun K15 hK15 => ?_
  refine wp_region_lit ?_
  refine st_val hS rfl rfl (by decide) (rv_load_agg (hS.ev rfl) ty_ag_26 (hM.get 2 rfl) ty_sz_26) fun a hS => ?_
  obtain ⟨r19, hr, hF⟩ := bind_some hF
  refine st_wp hS rfl (wp_call hS rfl rfl (by decide) fn_ok_81 rfl (c_impl_copyGraph F p0_g_Size p0_g_Rows p0_g_Rowsv hr _ (hM.get 3 rfl)) fun v w a hK hS => ?_)
  obtain ⟨v20, rfl, hN⟩ := hK
  have hM := hM.add hN rfl
  obtain ⟨b21, w, hr, hM⟩ := hM.allocE (ρ := a.eval) (dst := some 4) (ty := _) (pos := _) (af := _) (gd := _) (T := 26) (P := Tryd.prog) [(int i64 0), (Value.slice none 0 0)] ty_zr_26 rfl
  refine st_val hS rfl rfl (by decide) hr fun a hS => ?_
  have hM := hM.addNil 3
  have hM := hM.pk [1, 0, 2, 3, 4, 5, 6] (by decide) (pc rfl (pc rfl (pc rfl (pc rfl (pc rfl (pc rfl (pc rfl pn)))))))
  obtain ⟨w, hr, hM⟩ := hM.st_agg (us := [(int i64 r19.1), v20]) (ρ := a.eval) (dst := none) (ty := _) (pos := _) (af := _) (gd := _) (x := .tmp 4) (y := .tmp 11) (hS.ev rfl) (hS.ev rfl) ty_sz_26 (all1_cons rfl (all1_cons (rd_one (rd_of_ow (hM.get 2 rfl))) all1_nil)) rfl
  refine st_unit hS rfl rfl hr ?_
  refine wpList_nil ?_
  refine hK15 _ _ ?_
  refine wp_seq_k fun K22 hK22 => ?_
  have hJ1 : ∀ (l60 : List Int) (a : Act) (w : World), Sl 35 [(2, (fdp b5 0)), (4, (fdp b21 0))] a → Mem Nob w0 w [(true, bx b5 26 [(int i64 0), (Value.slice none 0 0)]), (true, ow 3 (Value.slice none 0 0) (List.map (int i64) ([] : List (Int)))), (true, bx b21 26 [(int i64 r19.1), v20]), (true, ow 3 v20 (List.map (int i64) l60))] → S_impl_ComplementOf_j1 F r19 l60 = some r → K22 a w := by
   intro l60 a w hS hM hF
   unfold S_impl_ComplementOf_j1 at hF
   refine hK22 _ _ ?_
   refine wp_seq_k fun K61 hK61 => ?_
   refine wp_region_lit ?_
   refine st_val hS rfl rfl (by decide) (rv_load_agg (hS.ev rfl) ty_ag_26 (hM.get 2 rfl) ty_sz_26) fun a hS => ?_
   obtain ⟨w, hr, hM⟩ := hM.st_agg (us := [(int i64 r19.1), v20]) (ρ := a.eval) (dst := none) (ty := _) (pos := _) (af := _) (gd := _) (x := .tmp 2) (y := .tmp 34) (hS.ev rfl) (hS.ev rfl) ty_sz_26 (all1_cons rfl (all1_cons (rd_one (rd_of_ow (hM.get 3 rfl))) all1_nil)) rfl
   refine st_unit hS rfl rfl hr ?_
   refine st_val hS rfl rfl (by decide) (rv_assign (hS.ev rfl)) fun a hS => ?_
   refine wpList_nil ?_
   refine hK61 _ _ ?_
   refine wp_ret ?_
   cases hF
   exact hQr _ _ (r_cc hS rfl ⟨_, rfl, run_loadAgg ty_ag_26 (hM.get 0 rfl) ty_sz_26⟩ rfl ⟨v20, rfl, hM.pk [3] (by decide) (pc rfl pn)⟩)
  refine wp_seq_k fun K62 hK62 => ?_
  refine wp_region_lit ?_
  refine st_val hS rfl rfl (by decide) (rv_fieldAddr ty_fd_26_1 (hS.ev rfl)) fun a hS => ?_
  refine st_val hS rfl rfl (by decide) (rv_load_bx (hS.ev rfl) ty_ag_24 (hM.get 0 rfl) rfl) fun a hS => ?_
  refine st_val hS rfl rfl (by decide) (rv_len_rowM Tryd.underlying24 (hS.ev rfl) (rd_of_ow (hM.get 2 rfl))) fun a hS => ?_
  refine st_val hS rfl rfl (by decide) (rv_move (hS.ev rfl)) fun a hS => ?_
  refine wpList_nil ?_
  refine hK62 _ _ ?_
  have hS : Sl 35 [(1, (fdp b4 0)), (2, (fdp b5 0)), (4, (fdp b21 0)), (14, (int i64 (r19.2.length : Int))), (15, (int i64 0))] a := hS.sub (sub_cons rfl (sub_cons rfl (sub_cons rfl (sub_cons rfl (sub_cons rfl sub_nil)))))
  have hM := hM.pk [0, 2, 3, 4, 5, 6] (by decide) (pc rfl (pc rfl (pc rfl (pc rfl (pc rfl (pc rfl pn))))))
  refine wp_block ?_
  obtain ⟨lb2, hl2, hF2⟩ := bind_some hF
  refine wp_loop_sh (fun s => S_impl_ComplementOf_l2 F p0_g_Size p0_g_Rows r19 s.1 s.2) (fun s a w => Sl 35 [(1, (fdp b4 0)), (2, (fdp b5 0)), (4, (fdp b21 0)), (14, (int i64 (r19.2.length : Int))), (15, (int i64 s.2))] a ∧ Mem Nob w0 w [(true, bx b4 26 [(int i64 p0_g_Size), p0_g_Rowsv]), (false, rd p0_g_Rowsv (List.map (int i64) p0_g_Rows)), (true, bx b5 26 [(int i64 0), (Value.slice none 0 0)]), (true, ow 3 (Value.slice none 0 0) (List.map (int i64) ([] : List (Int)))), (true, bx b21 26 [(int i64 r19.1), v20]), (true, ow 3 v20 (List.map (int i64) s.1))]) hl2 ⟨(hS.sub (sub_cons rfl (sub_cons rfl (sub_cons rfl (sub_cons rfl (sub_cons rfl sub_nil)))))), (hM.pk [4, 5, 3, 2, 0, 1] (by decide) (pc rfl (pc rfl (pc rfl (pc rfl (pc rfl (pc rfl pn)))))))⟩ ?_
  rintro K2 ⟨l75, x76⟩ a w res2 ⟨hS, hM⟩ hF hN2 hX2
  have hF : S_impl_ComplementOf_l2 F p0_g_Size p0_g_Rows r19 l75 x76 = some res2 := hF
  have hS : Sl 35 [(1, (fdp b4 0)), (2, (fdp b5 0)), (4, (fdp b21 0)), (14, (int i64 (r19.2.length : Int))), (15, (int i64 x76))] a := hS
  have hM : Mem Nob w0 w [(true, bx b4 26 [(int i64 p0_g_Size), p0_g_Rowsv]), (false, rd p0_g_Rowsv (List.map (int i64) p0_g_Rows)), (true, bx b5 26 [(int i64 0), (Value.slice none 0 0)]), (true, ow 3 (Value.slice none 0 0) (List.map (int i64) ([] : List (Int)))), (true, bx b21 26 [(int i64 r19.1), v20]), (true, ow 3 v20 (List.map (int i64) l75))] := hM
  unfold S_impl_ComplementOf_l2 at hF
  refine wp_seq_k fun K88 hK88 => ?_
  refine wp_region_lit ?_
  refine st_val hS rfl rfl (by decide) (rv_lss (hS.ev rfl) (hS.ev rfl)) fun a hS => ?_
  refine wpList_nil ?_
  refine hK88 _ _ ?_
  refine wp_seq_k fun K89 hK89 => ?_
  rcases ite_some hF with ⟨hc, hF⟩ | ⟨hc, hF⟩
  ·refine cond_t hS rfl hc ?_
   refine wp_skip ?_
   refine hK89 _ _ ?_
   refine wp_seq_k fun K90 hK90 => ?_
   refine wp_block ?_
   refine wp_seq_k fun K95 hK95 => ?_
   refine wp_region_lit ?_
   refine st_val hS rfl rfl (by decide) (rv_move (hS.ev rfl)) fun a hS => ?_
   refine st_val hS rfl rfl (by decide) (rv_assign (hS.ev rfl)) fun a hS => ?_
   refine wpList_nil ?_
   refine hK95 _ _ ?_
   have hM := hM.pk [5, 0, 1, 2, 3, 4] (by decide) (pc rfl (pc rfl (pc rfl (pc rfl (pc rfl (pc rfl pn))))))
   refine an_startB 16 (feet [(true, ow 3 v20 (List.map (int i64) l75))]) ty_mixed (by kernel_rfl) fun w hf => ?_
   have hM := hM.fra hf
   have hB := hM
   have hM := hB.reg1 rfl
   refine tkB hS 0 1 (by kernel_rfl) rfl rfl rfl hQp rfl (fun w' hC' => (rv_fieldAddr ty_fd_26_1 (hS.ev rfl))) hM.fr fun a hS => ?_
   refine tkB hS 1 3 (by kernel_rfl) rfl rfl rfl hQp rfl (fun w' hC' => (rv_load_bx (hS.ev rfl) ty_ag_24 (hB.getF rfl 4 rfl hC') rfl)) hM.fr fun a hS => ?_
   refine tkB hS 2 7 (by kernel_rfl) rfl rfl rfl hQp rfl (fun w' hC' => (rv_move (hS.ev rfl))) hM.fr fun a hS => ?_
   refine tkB hS 3 15 (by kernel_rfl) rfl rfl rfl hQp rfl (fun w' hC' => (rv_load_agg (hS.ev rfl) ty_ag_26 (hB.getF rfl 0 rfl hC') ty_sz_26)) hM.fr fun a hS => ?_
   refine tkB hS 5 47 (by kernel_rfl) rfl rfl rfl hQp rfl (fun w' hC' => (rv_fieldAddr ty_fd_26_1 (hS.ev rfl))) hM.fr fun a hS => ?_
   refine tkB hS 6 111 (by kernel_rfl) rfl rfl rfl hQp rfl (fun w' hC' => (rv_load_bx (hS.ev rfl) ty_ag_24 (hB.getF rfl 0 rfl hC') rfl)) hM.fr fun a hS => ?_
   refine tkB hS 7 239 (by kernel_rfl) rfl rfl rfl hQp rfl (fun w' hC' => (rv_move (hS.ev rfl))) hM.fr fun a hS => ?_
   obtain ⟨x96, hx, hF⟩ := bind_some hF
   obtain ⟨hi0, hi1, hex96⟩ := idxL_some hx
   refine tkB hS 8 495 (by kernel_rfl) rfl rfl rfl hQp rfl (fun w' hC' => (rv_indexAddr Tryd.underlying24 ty_el_3 (hS.ev rfl) (hS.ev rfl) (hM.get 2 rfl) hi0 (map_len hi1))) hM.fr fun a hS => ?_
   refine tkB hS 9 1007 (by kernel_rfl) rfl rfl rfl hQp rfl (fun w' hC' => (rv_load_el (hS.ev rfl) ty_ag_3 (hB.getF rfl 1 rfl hC') (mget hex96))) hM.fr fun a hS => ?_
   refine tkB hS 11 3055 (by kernel_rfl) rfl rfl rfl hQp rfl (fun w' hC' => (rv_move (hS.ev rfl))) hM.fr fun a hS => ?_
   obtain ⟨_, hx, hF⟩ := bind_some hF
   have hi0 := nnO_some hx
   refine tkB hS 12 7151 (by kernel_rfl) rfl rfl rfl hQp rfl (fun w' hC' => (rv_shl (hS.ev rfl) (hS.ev rfl) hi0)) hM.fr fun a hS => ?_
   obtain ⟨r97, hr, hF⟩ := bind_some hF
   refine an_oneB hS (i := 4) 7167 (by kernel_rfl) rfl (by kernel_rfl) rfl ?_
   refine wp_call hS rfl rfl (by decide) fn_ok_62 rfl (c_impl_all F p0_g_Size p0_g_Rows p0_g_Rowsv hr _ (hM.get 2 rfl)) fun v w a hK hS => ?_
   obtain ⟨rfl, hN⟩ := hK
   have hM := hM.fra hN.fr
   refine ⟨hM.fr, ?_⟩
   refine tkB hS 10 8191 (by kernel_rfl) rfl rfl rfl hQp rfl (fun w' hC' => (rv_andNot (hS.ev rfl) (hS.ev rfl))) hM.fr fun a hS => ?_
   refine tkB hS 13 16383 (by kernel_rfl) rfl rfl rfl hQp rfl (fun w' hC' => (rv_andNot (hS.ev rfl) (hS.ev rfl))) hM.fr fun a hS => ?_
   obtain ⟨x98, hx, hF⟩ := bind_some hF
   obtain ⟨hi0, hi1, hex98⟩ := idxL_some hx
   refine tkB hS 14 32767 (by kernel_rfl) rfl rfl rfl hQp rfl (fun w' hC' => (rv_indexAddr Tryd.underlying24 ty_el_3 (hS.ev rfl) (hS.ev rfl) (rd_of_ow (hM.get 0 rfl)) hi0 (map_len hi1))) hM.fr fun a hS => ?_
   obtain ⟨w, hr, hM⟩ := hM.st_el (f := (int i64)) (n := x76.toNat) (c := (bAndNot (bAndNot r97 x96) (shL 1 x76))) (ρ := a.eval) (dst := none) (ty := _) (pos := _) (af := _) (gd := _) (x := .tmp 32) (y := .tmp 31) i64_one (hS.ev rfl) (hS.ev rfl) ty_sz_3 (List.getElem?_eq_some_iff.1 hex98).1
   refine an_oneB hS (i := 15) 65535 (by kernel_rfl) rfl (by kernel_rfl) rfl ?_
   refine wp_unit hS rfl hr ⟨hM.fr, ?_⟩
   refine an_done (by kernel_rfl) ?_
   have hN := hM.pk [0] (by decide) (pc rfl pn)
   have hM := Mem.callo (A := [(true, ow 3 v20 (List.map (int i64) l75))]) (B := [(true, bx b4 26 [(int i64 p0_g_Size), p0_g_Rowsv]), (false, rd p0_g_Rowsv (List.map (int i64) p0_g_Rows)), (true, bx b5 26 [(int i64 0), (Value.slice none 0 0)]), (true, ow 3 (Value.slice none 0 0) (List.map (int i64) ([] : List (Int)))), (true, bx b21 26 [(int i64 r19.1), v20])]) hB rfl (hN.memS fun _ h => h) rfl
   refine hK90 _ _ ?_
   have hS : Sl 35 [(1, (fdp b4 0)), (2, (fdp b5 0)), (4, (fdp b21 0)), (14, (int i64 (r19.2.length : Int))), (15, (int i64 x76))] a := hS.sub (sub_cons rfl (sub_cons rfl (sub_cons rfl (sub_cons rfl (sub_cons rfl sub_nil)))))
   refine wp_region_lit ?_
   refine st_val hS rfl rfl (by decide) (rv_add (hS.ev rfl) (hS.ev rfl)) fun a hS => ?_
   refine st_val hS rfl rfl (by decide) (rv_move (hS.ev rfl)) fun a hS => ?_
   refine wpList_nil ?_
   cases hF
   exact hN2 _ _ _ rfl ⟨(hS.sub (sub_cons rfl (sub_cons rfl (sub_cons rfl (sub_cons rfl (sub_cons rfl sub_nil)))))), (hM.pk [1, 2, 3, 4, 5, 0] (by decide) (pc rfl (pc rfl (pc rfl (pc rfl (pc rfl (pc rfl pn)))))))⟩
  ·refine cond_f hS rfl hc ?_
   refine wp_exit ?_
   cases hF
   exact hJ1 l75 _ _ (hS.sub (sub_cons rfl (sub_cons rfl sub_nil))) (hM.pk [2, 3, 4, 5] (by decide) (pc rfl (pc rfl (pc rfl (pc rfl pn))))) (by have e := hX2 _ rfl; subst e; exact hF2)


theorem c_spec_l2Two (F : Nat) (p0_code : List Int) (p0_codev : Value) {r : Int × (List (Int)) × Int × Int} (hF : S_spec_l2Two F p0_code = some r) (w0 : World) (h0 : RdRow w0 p0_codev (List.map (int IntKind.u8) p0_code)) :
    Calls Tryd.prog 82 [p0_codev].toArray w0 (retPost fun v w' => ∃ v26, v = (Value.tuple #[(Value.agg #[(int i64 r.1), v26]), (int i64 r.2.2.1), (int i64 r.2.2.2)]) ∧ Mem Nob w0 w' [(true, ow 3 v26 (List.map (int i64) r.2.1))]) := by
 have hM : Mem Nob w0 w0 [(false, rd p0_codev (List.map (int IntKind.u8) p0_code))] := (Mem.rcons (Mem.nil w0) h0 (by simp))
 refine enter2 Tryd.func82 rfl rfl rfl fun Q a hQr hQn hQp hS => ?_
 have hS : Sl 24 [(0, p0_codev)] a := hS
 unfold S_spec_l2Two at hF
 refine wp_seq_k fun K1 hK1 => ?_
 refine wp_region_lit ?_
 obtain ⟨b3, w, hr, hM⟩ := hM.allocE (ρ := a.eval) (dst := some 2) (ty := _) (pos := _) (af := _) (gd := _) (T := 26) (P := Tryd.prog) [(int i64 0), (Value.slice none 0 0)] ty_zr_26 rfl
 refine st_val hS rfl rfl (by decide) hr fun a hS => ?_
 have hM := hM.addNil 3
 refine st_val hS rfl rfl (by decide) (rv_assign (hS.ev rfl)) fun a hS => ?_
 refine st_val hS rfl rfl (by decide) (rv_assign (hS.ev rfl)) fun a hS => ?_
 refine wpList_nil ?_
 refine hK1 _ _ ?_
 refine wp_seq_k fun K4 hK4 => ?_
 refine wp_region_lit ?_
 refine st_val hS rfl rfl (by decide) (rv_move (hS.ev rfl)) fun a hS => ?_
 obtain ⟨r7, hr, hF⟩ := bind_some hF
 refine st_wp hS rfl (wp_call hS rfl rfl (by decide) fn_ok_71 rfl (c_spec_l1New F p0_code p0_codev hr _ (hM.get 2 rfl)) fun v w a hK hS => ?_)
 obtain ⟨b8, rfl, hN⟩ := hK
 have hM := hM.add hN rfl
 refine st_val hS rfl rfl (by decide) (rv_assign (hS.ev rfl)) fun a hS => ?_
 refine wpList_nil ?_
 refine hK4 _ _ ?_
 refine wp_seq_k fun K9 hK9 => ?_
 refine wp_region_lit ?_
 refine st_val hS rfl rfl (by decide) (rv_move (hS.ev rfl)) fun a hS => ?_
 obtain ⟨r13, hr, hF⟩ := bind_some hF
 have hM := hM.pk [0, 3, 1, 2] (by decide) (pc rfl (pc rfl (pc rfl (pc rfl pn))))
 have hP := Mem.pre (A := [(true, bx b8 84 [p0_codev, (int i64 r7.1), (int i64 r7.2)])]) (C := [(false, rd p0_codev (List.map (int IntKind.u8) p0_code))]) (B := [(true, ow 3 (Value.slice none 0 0) (List.map (int i64) ([] : List (Int)))), (true, bx b3 26 [(int i64 0), (Value.slice none 0 0)])]) hM rfl (weaks_cons (weak_self _ _) weaks_nil)
 refine st_wp hS rfl (wp_call hS rfl rfl (by decide) fn_ok_76 rfl (c_spec_l2Any F p0_code r7.1 r7.2 p0_codev b8 hr _ hP) fun v w a hK hS => ?_)
 obtain ⟨v14, rfl, hN⟩ := hK
 have hM := Mem.callo (A := [(true, bx b8 84 [p0_codev, (int i64 r7.1), (int i64 r7.2)])]) (B := [(false, rd p0_codev (List.map (int IntKind.u8) p0_code)), (true, ow 3 (Value.slice none 0 0) (List.map (int i64) ([] : List (Int)))), (true, bx b3 26 [(int i64 0), (Value.slice none 0 0)])]) hM rfl hN rfl
 obtain ⟨b15, w, hr, hM⟩ := hM.allocE (ρ := a.eval) (dst := some 6) (ty := _) (pos := _) (af := _) (gd := _) (T := 26) (P := Tryd.prog) [(int i64 0), (Value.slice none 0 0)] ty_zr_26 rfl
 refine st_val hS rfl rfl (by decide) hr fun a hS => ?_
 have hM := hM.addNil 3
 have hM := hM.pk [1, 0, 2, 3, 4, 5, 6] (by decide) (pc rfl (pc rfl (pc rfl (pc rfl (pc rfl (pc rfl (pc rfl pn)))))))
 obtain ⟨w, hr, hM⟩ := hM.st_agg (us := [(int i64 r13.1), v14]) (ρ := a.eval) (dst := none) (ty := _) (pos := _) (af := _) (gd := _) (x := .tmp 6) (y := .tmp 11) (hS.ev rfl) (hS.ev rfl) ty_sz_26 (all1_cons rfl (all1_cons (rd_one (rd_of_ow (hM.get 3 rfl))) all1_nil)) rfl
 refine st_unit hS rfl rfl hr ?_
 refine wpList_nil ?_
 refine hK9 _ _ ?_
 refine wp_seq_k fun K16 hK16 => ?_
 refine wp_region_lit ?_
 refine st_val hS rfl rfl (by decide) (rv_move (hS.ev rfl)) fun a hS => ?_
 obtain ⟨r20, hr, hF⟩ := bind_some hF
 have hM := hM.pk [2, 4, 0, 1, 3, 5, 6] (by decide) (pc rfl (pc rfl (pc rfl (pc rfl (pc rfl (pc rfl (pc rfl pn)))))))
 have hP := Mem.pre (A := [(true, bx b8 84 [p0_codev, (int i64 r13.2.2.1), (int i64 r13.2.2.2)])]) (C := [(false, rd p0_codev (List.map (int IntKind.u8) p0_code))]) (B := [(true, bx b15 26 [(int i64 r13.1), v14]), (true, ow 3 (Value.slice none 0 0) (List.map (int i64) ([] : List (Int)))), (true, ow 3 v14 (List.map (int i64) r13.2.1)), (true, ow 3 (Value.slice none 0 0) (List.map (int i64) ([] : List (Int)))), (true, bx b3 26 [(int i64 0), (Value.slice none 0 0)])]) hM rfl (weaks_cons (weak_self _ _) weaks_nil)
 refine st_wp hS rfl (wp_call hS rfl rfl (by decide) fn_ok_72 rfl (c_spec_l1Below F p0_code r13.2.2.1 r13.2.2.2 7 p0_codev b8 hr _ hP) fun v w a hK hS => ?_)
 obtain ⟨rfl, hN⟩ := hK
 have hM := Mem.callo (A := [(true, bx b8 84 [p0_codev, (int i64 r13.2.2.1), (int i64 r13.2.2.2)])]) (B := [(false, rd p0_codev (List.map (int IntKind.u8) p0_code)), (true, bx b15 26 [(int i64 r13.1), v14]), (true, ow 3 (Value.slice none 0 0) (List.map (int i64) ([] : List (Int)))), (true, ow 3 v14 (List.map (int i64) r13.2.1)), (true, ow 3 (Value.slice none 0 0) (List.map (int i64) ([] : List (Int)))), (true, bx b3 26 [(int i64 0), (Value.slice none 0 0)])]) hM rfl hN rfl
 refine st_val hS rfl rfl (by decide) (rv_move (hS.ev rfl)) fun a hS => ?_
 obtain ⟨r21, hr, hF⟩ := bind_some hF
 have hM := hM.pk [0, 1, 2, 3, 4, 5, 6] (by decide) (pc rfl (pc rfl (pc rfl (pc rfl (pc rfl (pc rfl (pc rfl pn)))))))
 have hP := Mem.pre (A := [(true, bx b8 84 [p0_codev, (int i64 r20.2.1), (int i64 r20.2.2)])]) (C := [(false, rd p0_codev (List.map (int IntKind.u8) p0_code))]) (B := [(true, bx b15 26 [(int i64 r13.1), v14]), (true, ow 3 (Value.slice none 0 0) (List.map (int i64) ([] : List (Int)))), (true, ow 3 v14 (List.map (int i64) r13.2.1)), (true, ow 3 (Value.slice none 0 0) (List.map (int i64) ([] : List (Int)))), (true, bx b3 26 [(int i64 0), (Value.slice none 0 0)])]) hM rfl (weaks_cons (weak_self _ _) weaks_nil)
 refine st_wp hS rfl (wp_call hS rfl rfl (by decide) fn_ok_72 rfl (c_spec_l1Below F p0_code r20.2.1 r20.2.2 2 p0_codev b8 hr _ hP) fun v w a hK hS => ?_)
 obtain ⟨rfl, hN⟩ := hK
 have hM := Mem.callo (A := [(true, bx b8 84 [p0_codev, (int i64 r20.2.1), (int i64 r20.2.2)])]) (B := [(false, rd p0_codev (List.map (int IntKind.u8) p0_code)), (true, bx b15 26 [(int i64 r13.1), v14]), (true, ow 3 (Value.slice none 0 0) (List.map (int i64) ([] : List (Int)))), (true, ow 3 v14 (List.map (int i64) r13.2.1)), (true, ow 3 (Value.slice none 0 0) (List.map (int i64) ([] : List (Int)))), (true, bx b3 26 [(int i64 0), (Value.slice none 0 0)])]) hM rfl hN rfl
 refine st_val hS rfl rfl (by decide) (rv_move (hS.ev rfl)) fun a hS => ?_
 obtain ⟨r22, hr, hF⟩ := bind_some hF
 have hM := hM.pk [0, 1, 2, 3, 4, 5, 6] (by decide) (pc rfl (pc rfl (pc rfl (pc rfl (pc rfl (pc rfl (pc rfl pn)))))))
 have hP := Mem.pre (A := [(true, bx b8 84 [p0_codev, (int i64 r21.2.1), (int i64 r21.2.2)])]) (C := [(false, rd p0_codev (List.map (int IntKind.u8) p0_code))]) (B := [(true, bx b15 26 [(int i64 r13.1), v14]), (true, ow 3 (Value.slice none 0 0) (List.map (int i64) ([] : List (Int)))), (true, ow 3 v14 (List.map (int i64) r13.2.1)), (true, ow 3 (Value.slice none 0 0) (List.map (int i64) ([] : List (Int)))), (true, bx b3 26 [(int i64 0), (Value.slice none 0 0)])]) hM rfl (weaks_cons (weak_self _ _) weaks_nil)
 refine st_wp hS rfl (wp_call hS rfl rfl (by decide) fn_ok_72 rfl (c_spec_l1Below F p0_code r21.2.1 r21.2.2 2 p0_codev b8 hr _ hP) fun v w a hK hS => ?_)
 obtain ⟨rfl, hN⟩ := hK
 have hM := Mem.callo (A := [(true, bx b8 84 [p0_codev, (int i64 r21.2.1), (int i64 r21.2.2)])]) (B := [(false, rd p0_codev (List.map (int IntKind.u8) p0_code)), (true, bx b15 26 [(int i64 r13.1), v14]), (true, ow 3 (Value.slice none 0 0) (List.map (int i64) ([] : List (Int)))), (true, ow 3 v14 (List.map (int i64) r13.2.1)), (true, ow 3 (Value.slice none 0 0) (List.map (int i64) ([] : List (Int)))), (true, bx b3 26 [(int i64 0), (Value.slice none 0 0)])]) hM rfl hN rfl
 refine st_val hS rfl rfl (by decide) (rv_mul (hS.ev rfl) (hS.ev rfl)) fun a hS => ?_
 refine st_val hS rfl rfl (by decide) (rv_sub (hS.ev rfl) (hS.ev rfl)) fun a hS => ?_
 refine st_val hS rfl rfl (by decide) (rv_assign (hS.ev rfl)) fun a hS => ?_
 refine wpList_nil ?_
 refine hK16 _ _ ?_
 have hS : Sl 24 [(2, (fdp b3 0)), (5, (fdp b8 0)), (6, (fdp b15 0)), (7, (int i64 (i64.wrap (r20.1 - (i64.wrap (r21.1 * r22.1))))))] a := hS.sub (sub_cons rfl (sub_cons rfl (sub_cons rfl (sub_cons rfl sub_nil))))
 have hM := hM.pk [0, 1, 2, 4, 5, 6] (by decide) (pc rfl (pc rfl (pc rfl (pc rfl (pc rfl (pc rfl pn))))))
 refine wp_seq_k fun K23 hK23 => ?_
 have hM := hM.pk [0, 5, 1, 2, 3, 4] (by decide) (pc rfl (pc rfl (pc rfl (pc rfl (pc rfl (pc rfl pn))))))
 refine an_startB 7 (feet [(true, bx b8 84 [p0_codev, (int i64 r22.2.1), (int i64 r22.2.2)]), (true, bx b3 26 [(int i64 0), (Value.slice none 0 0)])]) ty_mixed (by kernel_rfl) fun w hf => ?_
 have hM := hM.fra hf
 have hB := hM
 have hM := Mem.regA (A := [(true, bx b8 84 [p0_codev, (int i64 r22.2.1), (int i64 r22.2.2)]), (true, bx b3 26 [(int i64 0), (Value.slice none 0 0)])]) (R := [(false, rd p0_codev (List.map (int IntKind.u8) p0_code)), (true, bx b15 26 [(int i64 r13.1), v14]), (true, ow 3 v14 (List.map (int i64) r13.2.1)), (true, ow 3 (Value.slice none 0 0) (List.map (int i64) ([] : List (Int))))]) hB rfl
 refine tkB hS 0 1 (by kernel_rfl) rfl rfl rfl hQp rfl (fun w' hC' => (rv_load_agg (hS.ev rfl) ty_ag_26 (Mem.getFA (A := [(true, bx b8 84 [p0_codev, (int i64 r22.2.1), (int i64 r22.2.2)]), (true, bx b3 26 [(int i64 0), (Value.slice none 0 0)])]) (R := [(false, rd p0_codev (List.map (int IntKind.u8) p0_code)), (true, bx b15 26 [(int i64 r13.1), v14]), (true, ow 3 v14 (List.map (int i64) r13.2.1)), (true, ow 3 (Value.slice none 0 0) (List.map (int i64) ([] : List (Int))))]) hB rfl 1 rfl hC') ty_sz_26)) hM.fr fun a hS => ?_
 refine tkB hS 1 3 (by kernel_rfl) rfl rfl rfl hQp rfl (fun w' hC' => (rv_move (hS.ev rfl))) hM.fr fun a hS => ?_
 refine tkB hS 2 7 (by kernel_rfl) rfl rfl rfl hQp rfl (fun w' hC' => (rv_move (hS.ev rfl))) hM.fr fun a hS => ?_
 obtain ⟨r25, hr, hF⟩ := bind_some hF
 have hM := hM.pk [0, 2, 1, 3, 4, 5] (by decide) (pc rfl (pc rfl (pc rfl (pc rfl (pc rfl (pc rfl pn))))))
 have hP := Mem.pre (A := [(true, bx b8 84 [p0_codev, (int i64 r22.2.1), (int i64 r22.2.2)])]) (C := [(false, rd p0_codev (List.map (int IntKind.u8) p0_code))]) (B := [(true, bx b3 26 [(int i64 0), (Value.slice none 0 0)]), (false, bx b15 26 [(int i64 r13.1), v14]), (false, ow 3 v14 (List.map (int i64) r13.2.1)), (false, ow 3 (Value.slice none 0 0) (List.map (int i64) ([] : List (Int))))]) hM rfl (weaks_cons (weak_self _ _) weaks_nil)
 refine an_oneB hS (i := 3) 15 (by kernel_rfl) rfl (by kernel_rfl) rfl ?_
 refine wp_call hS rfl rfl (by decide) fn_ok_72 rfl (c_spec_l1Below F p0_code r22.2.1 r22.2.2 6 p0_codev b8 hr _ hP) fun v w a hK hS => ?_
 obtain ⟨rfl, hN⟩ := hK
 have hM := Mem.callo (A := [(true, bx b8 84 [p0_codev, (int i64 r22.2.1), (int i64 r22.2.2)])]) (B := [(false, rd p0_codev (List.map (int IntKind.u8) p0_code)), (true, bx b3 26 [(int i64 0), (Value.slice none 0 0)]), (false, bx b15 26 [(int i64 r13.1), v14]), (false, ow 3 v14 (List.map (int i64) r13.2.1)), (false, ow 3 (Value.slice none 0 0) (List.map (int i64) ([] : List (Int))))]) hM rfl hN rfl
 refine ⟨hM.fr, ?_⟩
 have hM := hM.pk [2, 0, 1, 3, 4, 5] (by decide) (pc rfl (pc rfl (pc rfl (pc rfl (pc rfl (pc rfl pn))))))
 obtain ⟨w, hr, hM⟩ := hM.st_agg (us := [(int i64 r13.1), v14]) (ρ := a.eval) (dst := none) (ty := _) (pos := _) (af := _) (gd := _) (x := .tmp 2) (y := .tmp 20) (hS.ev rfl) (hS.ev rfl) ty_sz_26 (all1_cons rfl (all1_cons (rd_one (rd_of_ow (hM.get 4 rfl))) all1_nil)) rfl
 refine an_oneB hS (i := 4) 31 (by kernel_rfl) rfl (by kernel_rfl) rfl ?_
 refine wp_unit hS rfl hr ⟨hM.fr, ?_⟩
 refine tkB hS 5 63 (by kernel_rfl) rfl rfl rfl hQp rfl (fun w' hC' => (rv_assign (hS.ev rfl))) hM.fr fun a hS => ?_
 refine tkB hS 6 127 (by kernel_rfl) rfl rfl rfl hQp rfl (fun w' hC' => (rv_assign (hS.ev rfl))) hM.fr fun a hS => ?_
 refine an_done (by kernel_rfl) ?_
 have hN := hM.pk [0, 1] (by decide) (pc rfl (pc rfl pn))
 have hM := Mem.callo (A := [(true, bx b8 84 [p0_codev, (int i64 r22.2.1), (int i64 r22.2.2)]), (true, bx b3 26 [(int i64 0), (Value.slice none 0 0)])]) (B := [(false, rd p0_codev (List.map (int IntKind.u8) p0_code)), (true, bx b15 26 [(int i64 r13.1), v14]), (true, ow 3 v14 (List.map (int i64) r13.2.1)), (true, ow 3 (Value.slice none 0 0) (List.map (int i64) ([] : List (Int))))]) hB rfl (hN.memS fun _ h => h) rfl
 refine hK23 _ _ ?_
 have hS : Sl 24 [(2, (fdp b3 0)), (3, (int i64 (i64.wrap (r20.1 - (i64.wrap (r21.1 * r22.1)))))), (4, (int i64 r25.1))] a := hS.sub (sub_cons rfl (sub_cons rfl (sub_cons rfl sub_nil)))
 have hM := hM.pk [0, 4] (by decide) (pc rfl (pc rfl pn))
 refine wp_ret ?_
 cases hF
 exact hQr _ _ (r_ccc hS rfl ⟨_, rfl, run_loadAgg ty_ag_26 (hM.get 0 rfl) ty_sz_26⟩ rfl rfl ⟨v14, rfl, hM.pk [1] (by decide) (pc rfl pn)⟩)


end Go.Proofs.YtdalcpadcggklaaDoor
