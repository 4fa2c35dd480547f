/- Proved here: that each Go function does what its shallow function says -/
import Derived.Test.YtdalcpadcggklaaDoorSh
import Derived.Test.YtdalcpadcggklaaDoorTy
import Derived.Test.YtdalcpadcggklaaDoorK13
import Derived.Test.YtdalcpadcggklaaDoorKS
import Derived.Test.YtdalcpadcggklaaDoorW0
import Derived.Test.YtdalcpadcggklaaDoorW1
namespace Go.Proofs.YtdalcpadcggklaaDoor
open Go Go.RowKit
set_option linter.unusedVariables false
set_option linter.unusedSimpArgs false
set_option maxRecDepth 100000
set_option maxHeartbeats 40000000

open Go.IntKind (i64)
open Go.Value (int)
theorem c_spec_l2Draw (F : Nat) (p0_c_b : List Int) (p0_c_i : Int) (p0_c_h : Int) (p0_c_bv : Value) (p0_cb : Nat) {r : Int × (List (Int)) × Int × Int} (hF : S_spec_l2Draw F p0_c_b p0_c_i p0_c_h = some r) (w0 : World) (hM : Mem (feet [(true, bx p0_cb 84 [p0_c_bv, (int i64 p0_c_i), (int i64 p0_c_h)])]) w0 w0 [(true, bx p0_cb 84 [p0_c_bv, (int i64 p0_c_i), (int i64 p0_c_h)]), (false, rd p0_c_bv (List.map (int IntKind.u8) p0_c_b))]) :
    Calls Tryd.prog 93 [(fdp p0_cb 0)].toArray w0 (retPost fun v w' => ∃ v101, v = (Value.agg #[(int i64 r.1), v101]) ∧ Mem (feet [(true, bx p0_cb 84 [p0_c_bv, (int i64 p0_c_i), (int i64 p0_c_h)])]) w0 w' [(true, bx p0_cb 84 [p0_c_bv, (int i64 r.2.2.1), (int i64 r.2.2.2)]), (true, ow 3 v101 (List.map (int i64) r.2.1))]) := by
 have hM := hM.pk [1, 0] (by decide) (pc rfl (pc rfl pn))
 refine enter2 Tryd.func93 rfl rfl rfl fun Q a hQr hQn hQp hS => ?_
 have hS : Sl 47 [(0, (fdp p0_cb 0))] a := hS
 unfold S_spec_l2Draw at hF
 refine wp_seq_k fun K1 hK1 => ?_
 refine wp_region_lit ?_
 obtain ⟨b3, w, hr, hM⟩ := hM.allocE (ρ := a.eval) (dst := some 2) (ty := _) (pos := _) (af := _) (gd := _) (T := 26) (P := Tryd.prog) [(int i64 0), (Value.slice none 0 0)] ty_zr_26 rfl
 refine st_val hS rfl rfl (by decide) hr fun a hS => ?_
 have hM := hM.addNil 3
 refine wpList_nil ?_
 refine hK1 _ _ ?_
 refine wp_seq_k fun K4 hK4 => ?_
 refine wp_region_lit ?_
 refine st_val hS rfl rfl (by decide) (rv_move (hS.ev rfl)) fun a hS => ?_
 obtain ⟨r6, hr, hF⟩ := bind_some hF
 have hM := hM.pk [3, 2, 0, 1] (by decide) (pc rfl (pc rfl (pc rfl (pc rfl pn))))
 have hP := Mem.pre (A := [(true, bx p0_cb 84 [p0_c_bv, (int i64 p0_c_i), (int i64 p0_c_h)])]) (C := [(false, rd p0_c_bv (List.map (int IntKind.u8) p0_c_b))]) (B := [(true, ow 3 (Value.slice none 0 0) (List.map (int i64) ([] : List (Int)))), (true, bx b3 26 [(int i64 0), (Value.slice none 0 0)])]) hM rfl (weaks_cons (weak_self _ _) weaks_nil)
 refine st_wp hS rfl (wp_call hS rfl rfl (by decide) fn_ok_72 rfl (c_spec_l1Below F p0_c_b p0_c_i p0_c_h 6 p0_c_bv p0_cb hr _ hP) fun v w a hK hS => ?_)
 obtain ⟨rfl, hN⟩ := hK
 have hM := Mem.callo (A := [(true, bx p0_cb 84 [p0_c_bv, (int i64 p0_c_i), (int i64 p0_c_h)])]) (B := [(false, rd p0_c_bv (List.map (int IntKind.u8) p0_c_b)), (true, ow 3 (Value.slice none 0 0) (List.map (int i64) ([] : List (Int)))), (true, bx b3 26 [(int i64 0), (Value.slice none 0 0)])]) hM rfl hN rfl
 refine st_val hS rfl rfl (by decide) (rv_add (hS.ev rfl) (hS.ev rfl)) fun a hS => ?_
 refine st_val hS rfl rfl (by decide) (rv_assign (hS.ev rfl)) fun a hS => ?_
 refine wpList_nil ?_
 refine hK4 _ _ ?_
 refine wp_seq_k fun K7 hK7 => ?_
 refine wp_seq_k fun K52 hK52 => ?_
 refine wp_region_lit ?_
 refine st_val hS rfl rfl (by decide) (rv_move (hS.ev rfl)) fun a hS => ?_
 obtain ⟨r54, hr, hF⟩ := bind_some hF
 have hM := hM.pk [0, 1, 2, 3] (by decide) (pc rfl (pc rfl (pc rfl (pc rfl pn))))
 have hP := Mem.pre (A := [(true, bx p0_cb 84 [p0_c_bv, (int i64 r6.2.1), (int i64 r6.2.2)])]) (C := [(false, rd p0_c_bv (List.map (int IntKind.u8) p0_c_b))]) (B := [(true, ow 3 (Value.slice none 0 0) (List.map (int i64) ([] : List (Int)))), (true, bx b3 26 [(int i64 0), (Value.slice none 0 0)])]) hM rfl (weaks_cons (weak_self _ _) weaks_nil)
 refine st_wp hS rfl (wp_call hS rfl rfl (by decide) fn_ok_72 rfl (c_spec_l1Below F p0_c_b r6.2.1 r6.2.2 4 p0_c_bv p0_cb hr _ hP) fun v w a hK hS => ?_)
 obtain ⟨rfl, hN⟩ := hK
 have hM := Mem.callo (A := [(true, bx p0_cb 84 [p0_c_bv, (int i64 r6.2.1), (int i64 r6.2.2)])]) (B := [(false, rd p0_c_bv (List.map (int IntKind.u8) p0_c_b)), (true, ow 3 (Value.slice none 0 0) (List.map (int i64) ([] : List (Int)))), (true, bx b3 26 [(int i64 0), (Value.slice none 0 0)])]) hM rfl hN rfl
 refine wpList_nil ?_
 refine hK52 _ _ ?_
 refine wp_block ?_
 refine wp_seq_k fun K55 hK55 => ?_
 refine wp_region_lit ?_
 refine st_val hS rfl rfl (by decide) (rv_eql (hS.ev rfl) (hS.ev rfl)) fun a hS => ?_
 refine st_val hS rfl rfl (by decide) (rv_assign (hS.ev rfl)) fun a hS => ?_
 refine wpList_nil ?_
 refine hK55 _ _ ?_
 rcases ite_some hF with ⟨hc, hF⟩ | ⟨hc, hF⟩
 ·refine cond_t hS rfl hc ?_
  refine wp_seq_k fun K56 hK56 => ?_
  refine wp_region_lit ?_
  refine st_val hS rfl rfl (by decide) (rv_move (hS.ev rfl)) fun a hS => ?_
  obtain ⟨v62, w, hr, hM⟩ := Mem.litE (f := (fun s => Value.string (bs s))) (dst := some 17) (ty := _) (pos := _) (af := _) (gd := _) (ps := [(0, .const (Value.string (bs ([112, 97, 116, 104] : List UInt8)))), (1, .const (Value.string (bs ([99, 121, 99, 108, 101] : List UInt8)))), (2, .const (Value.string (bs ([99, 111, 109, 112, 108, 101, 116, 101] : List UInt8)))), (3, .const (Value.string (bs ([115, 116, 97, 114] : List UInt8)))), (4, .const (Value.string (bs ([119, 104, 101, 101, 108] : List UInt8))))]) ([([112, 97, 116, 104] : List UInt8), ([99, 121, 99, 108, 101] : List UInt8), ([99, 111, 109, 112, 108, 101, 116, 101] : List UInt8), ([115, 116, 97, 114] : List UInt8), ([119, 104, 101, 101, 108] : List UInt8)] : List (List UInt8)) str_one hM hS Tryd.underlying75 ty_el_9 rfl rfl rfl rfl
  refine st_val hS rfl rfl (by decide) hr fun a hS => ?_
  obtain ⟨r63, hr, hF⟩ := bind_some hF
  have hM := hM.pk [1, 2, 0, 3, 4] (by decide) (pc rfl (pc rfl (pc rfl (pc rfl (pc rfl pn)))))
  have hP := Mem.pre (A := [(true, bx p0_cb 84 [p0_c_bv, (int i64 r54.2.1), (int i64 r54.2.2)])]) (C := [(false, rd p0_c_bv (List.map (int IntKind.u8) p0_c_b)), (true, ow 9 v62 (List.map (fun s => Value.string (bs s)) ([([112, 97, 116, 104] : List UInt8), ([99, 121, 99, 108, 101] : List UInt8), ([99, 111, 109, 112, 108, 101, 116, 101] : List UInt8), ([115, 116, 97, 114] : List UInt8), ([119, 104, 101, 101, 108] : List UInt8)] : List (List UInt8))))]) (B := [(true, ow 3 (Value.slice none 0 0) (List.map (int i64) ([] : List (Int)))), (true, bx b3 26 [(int i64 0), (Value.slice none 0 0)])]) hM rfl (weaks_cons (weak_self _ _) (weaks_cons (weak_ow _ _ _ _) weaks_nil))
  refine st_wp hS rfl (wp_call hS rfl rfl (by decide) fn_ok_79 rfl (c_spec_l1Pick F p0_c_b r54.2.1 r54.2.2 ([([112, 97, 116, 104] : List UInt8), ([99, 121, 99, 108, 101] : List UInt8), ([99, 111, 109, 112, 108, 101, 116, 101] : List UInt8), ([115, 116, 97, 114] : List UInt8), ([119, 104, 101, 101, 108] : List UInt8)] : List (List UInt8)) p0_c_bv p0_cb v62 hr _ hP) fun v w a hK hS => ?_)
  obtain ⟨rfl, hN⟩ := hK
  have hM := Mem.callo (A := [(true, bx p0_cb 84 [p0_c_bv, (int i64 r54.2.1), (int i64 r54.2.2)])]) (B := [(false, rd p0_c_bv (List.map (int IntKind.u8) p0_c_b)), (true, ow 9 v62 (List.map (fun s => Value.string (bs s)) ([([112, 97, 116, 104] : List UInt8), ([99, 121, 99, 108, 101] : List UInt8), ([99, 111, 109, 112, 108, 101, 116, 101] : List UInt8), ([115, 116, 97, 114] : List UInt8), ([119, 104, 101, 101, 108] : List UInt8)] : List (List UInt8)))), (true, ow 3 (Value.slice none 0 0) (List.map (int i64) ([] : List (Int)))), (true, bx b3 26 [(int i64 0), (Value.slice none 0 0)])]) hM rfl hN rfl
  refine st_val hS rfl rfl (by decide) (rv_move (hS.ev rfl)) fun a hS => ?_
  obtain ⟨r64, hr, hF⟩ := bind_some hF
  refine st_wp hS rfl (wp_call hS rfl rfl (by decide) fn_ok_52 rfl (c_spec_NamedGraph F r63.1 (i64.wrap (1 + r6.1)) hr _) fun v w a hK hS => ?_)
  obtain ⟨v65, rfl, hN⟩ := hK
  have hM := hM.add hN rfl
  refine st_val hS rfl rfl (by decide) (rv_move (hS.ev rfl)) fun a hS => ?_
  refine st_val hS rfl rfl (by decide) (rv_extract (hS.ev rfl) rfl) fun a hS => ?_
  refine st_val hS rfl rfl (by decide) (rv_extract (hS.ev rfl) rfl) fun a hS => ?_
  obtain ⟨b66, w, hr, hM⟩ := hM.allocE (ρ := a.eval) (dst := some 4) (ty := _) (pos := _) (af := _) (gd := _) (T := 26) (P := Tryd.prog) [(int i64 0), (Value.slice none 0 0)] ty_zr_26 rfl
  refine st_val hS rfl rfl (by decide) hr fun a hS => ?_
  have hM := hM.addNil 3
  have hM := hM.pk [1, 0, 2, 3, 4, 5, 6, 7] (by decide) (pc rfl (pc rfl (pc rfl (pc rfl (pc rfl (pc rfl (pc rfl (pc rfl pn))))))))
  obtain ⟨w, hr, hM⟩ := hM.st_agg (us := [(int i64 r64.1), v65]) (ρ := a.eval) (dst := none) (ty := _) (pos := _) (af := _) (gd := _) (x := .tmp 4) (y := .tmp 21) (hS.ev rfl) (hS.ev rfl) ty_sz_26 (all1_cons rfl (all1_cons (rd_one (rd_of_ow (hM.get 2 rfl))) all1_nil)) rfl
  refine st_unit hS rfl rfl hr ?_
  refine st_val hS rfl rfl (by decide) (rv_assign (hS.ev rfl)) fun a hS => ?_
  refine wpList_nil ?_
  refine hK56 _ _ ?_
  have hS : Sl 47 [(0, (fdp p0_cb 0)), (2, (fdp b3 0)), (3, (int i64 (i64.wrap (1 + r6.1)))), (4, (fdp b66 0))] a := hS.sub (sub_cons rfl (sub_cons rfl (sub_cons rfl (sub_cons rfl sub_nil))))
  have hM := hM.pk [0, 2, 3, 4, 6, 7] (by decide) (pc rfl (pc rfl (pc rfl (pc rfl (pc rfl (pc rfl pn))))))
  refine wp_seq_k fun K67 hK67 => ?_
  refine wp_region_lit ?_
  refine st_val hS rfl rfl (by decide) (rv_move (hS.ev rfl)) fun a hS => ?_
  refine st_val hS rfl rfl (by decide) (rv_move (hS.ev rfl)) fun a hS => ?_
  obtain ⟨r69, hr, hF⟩ := bind_some hF
  have hM := hM.pk [2, 3, 0, 1, 4, 5] (by decide) (pc rfl (pc rfl (pc rfl (pc rfl (pc rfl (pc rfl pn))))))
  have hP := Mem.pre (A := [(true, bx p0_cb 84 [p0_c_bv, (int i64 r63.2.1), (int i64 r63.2.2)])]) (C := [(false, rd p0_c_bv (List.map (int IntKind.u8) p0_c_b))]) (B := [(true, bx b66 26 [(int i64 r64.1), v65]), (true, ow 3 v65 (List.map (int i64) r64.2.1)), (true, ow 3 (Value.slice none 0 0) (List.map (int i64) ([] : List (Int)))), (true, bx b3 26 [(int i64 0), (Value.slice none 0 0)])]) hM rfl (weaks_cons (weak_self _ _) weaks_nil)
  refine st_wp hS rfl (wp_call hS rfl rfl (by decide) fn_ok_72 rfl (c_spec_l1Below F p0_c_b r63.2.1 r63.2.2 (i64.wrap (1 + r6.1)) p0_c_bv p0_cb hr _ hP) fun v w a hK hS => ?_)
  obtain ⟨rfl, hN⟩ := hK
  have hM := Mem.callo (A := [(true, bx p0_cb 84 [p0_c_bv, (int i64 r63.2.1), (int i64 r63.2.2)])]) (B := [(false, rd p0_c_bv (List.map (int IntKind.u8) p0_c_b)), (true, bx b66 26 [(int i64 r64.1), v65]), (true, ow 3 v65 (List.map (int i64) r64.2.1)), (true, ow 3 (Value.slice none 0 0) (List.map (int i64) ([] : List (Int)))), (true, bx b3 26 [(int i64 0), (Value.slice none 0 0)])]) hM rfl hN rfl
  refine st_val hS rfl rfl (by decide) (rv_assign (hS.ev rfl)) fun a hS => ?_
  refine wpList_nil ?_
  refine hK67 _ _ ?_
  refine wp_seq_k fun K70 hK70 => ?_
  refine wp_region_lit ?_
  refine st_val hS rfl rfl (by decide) (rv_move (hS.ev rfl)) fun a hS => ?_
  refine st_val hS rfl rfl (by decide) (rv_move (hS.ev rfl)) fun a hS => ?_
  obtain ⟨r72, hr, hF⟩ := bind_some hF
  have hM := hM.pk [0, 1, 2, 3, 4, 5] (by decide) (pc rfl (pc rfl (pc rfl (pc rfl (pc rfl (pc rfl pn))))))
  have hP := Mem.pre (A := [(true, bx p0_cb 84 [p0_c_bv, (int i64 r69.2.1), (int i64 r69.2.2)])]) (C := [(false, rd p0_c_bv (List.map (int IntKind.u8) p0_c_b))]) (B := [(true, bx b66 26 [(int i64 r64.1), v65]), (true, ow 3 v65 (List.map (int i64) r64.2.1)), (true, ow 3 (Value.slice none 0 0) (List.map (int i64) ([] : List (Int)))), (true, bx b3 26 [(int i64 0), (Value.slice none 0 0)])]) hM rfl (weaks_cons (weak_self _ _) weaks_nil)
  refine st_wp hS rfl (wp_call hS rfl rfl (by decide) fn_ok_72 rfl (c_spec_l1Below F p0_c_b r69.2.1 r69.2.2 (i64.wrap (1 + r6.1)) p0_c_bv p0_cb hr _ hP) fun v w a hK hS => ?_)
  obtain ⟨rfl, hN⟩ := hK
  have hM := Mem.callo (A := [(true, bx p0_cb 84 [p0_c_bv, (int i64 r69.2.1), (int i64 r69.2.2)])]) (B := [(false, rd p0_c_bv (List.map (int IntKind.u8) p0_c_b)), (true, bx b66 26 [(int i64 r64.1), v65]), (true, ow 3 v65 (List.map (int i64) r64.2.1)), (true, ow 3 (Value.slice none 0 0) (List.map (int i64) ([] : List (Int)))), (true, bx b3 26 [(int i64 0), (Value.slice none 0 0)])]) hM rfl hN rfl
  refine st_val hS rfl rfl (by decide) (rv_assign (hS.ev rfl)) fun a hS => ?_
  refine wpList_nil ?_
  refine hK70 _ _ ?_
  refine wp_seq_k fun K73 hK73 => ?_
  have hJ1 : ∀ (x79 : Int) (l81 : List Int) (x82 : Int) (x83 : Int) (v80 : Value) (a : Act) (w : World), Sl 47 [(2, (fdp b3 0)), (4, (fdp b66 0))] a → Mem (feet [(true, bx p0_cb 84 [p0_c_bv, (int i64 p0_c_i), (int i64 p0_c_h)])]) w0 w [(true, bx b3 26 [(int i64 0), (Value.slice none 0 0)]), (true, ow 3 (Value.slice none 0 0) (List.map (int i64) ([] : List (Int)))), (true, bx b66 26 [(int i64 x79), v80]), (true, ow 3 v80 (List.map (int i64) l81)), (true, bx p0_cb 84 [p0_c_bv, (int i64 x82), (int i64 x83)]), (false, rd p0_c_bv (List.map (int IntKind.u8) p0_c_b))] → S_spec_l2Draw_j1 F x79 l81 x82 x83 = some r → K73 a w := by
   intro x79 l81 x82 x83 v80 a w hS hM hF
   unfold S_spec_l2Draw_j1 at hF
   refine hK73 _ _ ?_
   refine wp_seq_k fun K84 hK84 => ?_
   refine wp_region_lit ?_
   refine st_val hS rfl rfl (by decide) (rv_load_agg (hS.ev rfl) ty_ag_26 (hM.get 2 rfl) ty_sz_26) fun a hS => ?_
   obtain ⟨w, hr, hM⟩ := hM.st_agg (us := [(int i64 x79), v80]) (ρ := a.eval) (dst := none) (ty := _) (pos := _) (af := _) (gd := _) (x := .tmp 2) (y := .tmp 38) (hS.ev rfl) (hS.ev rfl) ty_sz_26 (all1_cons rfl (all1_cons (rd_one (rd_of_ow (hM.get 3 rfl))) all1_nil)) rfl
   refine st_unit hS rfl rfl hr ?_
   refine wpList_nil ?_
   refine hK84 _ _ ?_
   refine wp_ret ?_
   cases hF
   exact hQr _ _ (r_c hS rfl ⟨_, rfl, run_loadAgg ty_ag_26 (hM.get 0 rfl) ty_sz_26⟩ ⟨v80, rfl, hM.pk [4, 3] (by decide) (pc rfl (pc rfl pn))⟩)
  refine wp_seq_k fun K85 hK85 => ?_
  refine wp_region_lit ?_
  refine st_val hS rfl rfl (by decide) (rv_move (hS.ev rfl)) fun a hS => ?_
  obtain ⟨r87, hr, hF⟩ := bind_some hF
  have hM := hM.pk [0, 1, 2, 3, 4, 5] (by decide) (pc rfl (pc rfl (pc rfl (pc rfl (pc rfl (pc rfl pn))))))
  have hP := Mem.pre (A := [(true, bx p0_cb 84 [p0_c_bv, (int i64 r72.2.1), (int i64 r72.2.2)])]) (C := [(false, rd p0_c_bv (List.map (int IntKind.u8) p0_c_b))]) (B := [(true, bx b66 26 [(int i64 r64.1), v65]), (true, ow 3 v65 (List.map (int i64) r64.2.1)), (true, ow 3 (Value.slice none 0 0) (List.map (int i64) ([] : List (Int)))), (true, bx b3 26 [(int i64 0), (Value.slice none 0 0)])]) hM rfl (weaks_cons (weak_self _ _) weaks_nil)
  refine st_wp hS rfl (wp_call hS rfl rfl (by decide) fn_ok_73 rfl (c_spec_l1Once F p0_c_b r72.2.1 r72.2.2 2 p0_c_bv p0_cb hr _ hP) fun v w a hK hS => ?_)
  obtain ⟨rfl, hN⟩ := hK
  have hM := Mem.callo (A := [(true, bx p0_cb 84 [p0_c_bv, (int i64 r72.2.1), (int i64 r72.2.2)])]) (B := [(false, rd p0_c_bv (List.map (int IntKind.u8) p0_c_b)), (true, bx b66 26 [(int i64 r64.1), v65]), (true, ow 3 v65 (List.map (int i64) r64.2.1)), (true, ow 3 (Value.slice none 0 0) (List.map (int i64) ([] : List (Int)))), (true, bx b3 26 [(int i64 0), (Value.slice none 0 0)])]) hM rfl hN rfl
  refine wpList_nil ?_
  refine hK85 _ _ ?_
  have hS : Sl 47 [(2, (fdp b3 0)), (4, (fdp b66 0)), (6, (int i64 r69.1)), (7, (int i64 r72.1)), (30, (Value.bool r87.1))] a := hS.sub (sub_cons rfl (sub_cons rfl (sub_cons rfl (sub_cons rfl (sub_cons rfl sub_nil)))))
  rcases ite_some hF with ⟨hc, hF⟩ | ⟨hc, hF⟩
  ·refine cond_t hS rfl hc ?_
   refine wp_region_lit ?_
   refine st_val hS rfl rfl (by decide) (rv_load_agg (hS.ev rfl) ty_ag_26 (hM.get 2 rfl) ty_sz_26) fun a hS => ?_
   refine st_val hS rfl rfl (by decide) (rv_move (hS.ev rfl)) fun a hS => ?_
   refine st_val hS rfl rfl (by decide) (rv_move (hS.ev rfl)) fun a hS => ?_
   obtain ⟨r88, hr, hF⟩ := bind_some hF
   refine st_wp hS rfl (wp_call hS rfl rfl (by decide) fn_ok_44 rfl (c_spec_AddEdge F r64.1 r64.2.1 r69.1 r72.1 v65 hr _ (rd_of_ow (hM.get 3 rfl))) fun v w a hK hS => ?_)
   obtain ⟨v89, rfl, hN⟩ := hK
   have hM := hM.add hN rfl
   refine st_val hS rfl rfl (by decide) (rv_move (hS.ev rfl)) fun a hS => ?_
   refine st_val hS rfl rfl (by decide) (rv_extract (hS.ev rfl) rfl) fun a hS => ?_
   refine st_val hS rfl rfl (by decide) (rv_extract (hS.ev rfl) rfl) fun a hS => ?_
   have hM := hM.pk [3, 0, 1, 2, 4, 5, 6] (by decide) (pc rfl (pc rfl (pc rfl (pc rfl (pc rfl (pc rfl (pc rfl pn)))))))
   obtain ⟨w, hr, hM⟩ := hM.st_agg (us := [(int i64 r88.1), v89]) (ρ := a.eval) (dst := none) (ty := _) (pos := _) (af := _) (gd := _) (x := .tmp 4) (y := .tmp 36) (hS.ev rfl) (hS.ev rfl) ty_sz_26 (all1_cons rfl (all1_cons (rd_one (rd_of_ow (hM.get 1 rfl))) all1_nil)) rfl
   refine st_unit hS rfl rfl hr ?_
   refine wpList_nil ?_
   exact hJ1 r88.1 r88.2.1 r87.2.1 r87.2.2 v89 _ _ (hS.sub (sub_cons rfl (sub_cons rfl sub_nil))) (hM.pk [6, 5, 0, 1, 2, 3] (by decide) (pc rfl (pc rfl (pc rfl (pc rfl (pc rfl (pc rfl pn))))))) hF
  ·refine cond_f hS rfl hc ?_
   refine wp_skip ?_
   exact hJ1 r64.1 r64.2.1 r87.2.1 r87.2.2 v65 _ _ (hS.sub (sub_cons rfl (sub_cons rfl sub_nil))) (hM.pk [5, 4, 2, 3, 0, 1] (by decide) (pc rfl (pc rfl (pc rfl (pc rfl (pc rfl (pc rfl pn))))))) hF
 ·refine cond_f hS rfl hc ?_
  refine wp_seq_k fun K90 hK90 => ?_
  refine wp_region_lit ?_
  refine st_val hS rfl rfl (by decide) (rv_eql (hS.ev rfl) (hS.ev rfl)) fun a hS => ?_
  refine st_val hS rfl rfl (by decide) (rv_assign (hS.ev rfl)) fun a hS => ?_
  refine wpList_nil ?_
  refine hK90 _ _ ?_
  have hS : Sl 47 [(0, (fdp p0_cb 0)), (2, (fdp b3 0)), (3, (int i64 (i64.wrap (1 + r6.1)))), (39, (Value.bool (r54.1 == 1)))] a := hS.sub (sub_cons rfl (sub_cons rfl (sub_cons rfl (sub_cons rfl sub_nil))))
  rcases ite_some hF with ⟨hc, hF⟩ | ⟨hc, hF⟩
  ·refine cond_t hS rfl hc ?_
   refine wp_seq_k fun K91 hK91 => ?_
   refine wp_region_lit ?_
   refine st_val hS rfl rfl (by decide) (rv_move (hS.ev rfl)) fun a hS => ?_
   refine st_val hS rfl rfl (by decide) (rv_move (hS.ev rfl)) fun a hS => ?_
   obtain ⟨r94, hr, hF⟩ := bind_some hF
   have hM := hM.pk [0, 1, 2, 3] (by decide) (pc rfl (pc rfl (pc rfl (pc rfl pn))))
   have hP := Mem.pre (A := [(true, bx p0_cb 84 [p0_c_bv, (int i64 r54.2.1), (int i64 r54.2.2)])]) (C := [(false, rd p0_c_bv (List.map (int IntKind.u8) p0_c_b))]) (B := [(true, ow 3 (Value.slice none 0 0) (List.map (int i64) ([] : List (Int)))), (true, bx b3 26 [(int i64 0), (Value.slice none 0 0)])]) hM rfl (weaks_cons (weak_self _ _) weaks_nil)
   refine st_wp hS rfl (wp_call hS rfl rfl (by decide) fn_ok_97 rfl (c_spec_l2Random F p0_c_b r54.2.1 r54.2.2 (i64.wrap (1 + r6.1)) 7 p0_c_bv p0_cb hr _ hP) fun v w a hK hS => ?_)
   obtain ⟨v95, rfl, hN⟩ := hK
   have hM := Mem.callo (A := [(true, bx p0_cb 84 [p0_c_bv, (int i64 r54.2.1), (int i64 r54.2.2)])]) (B := [(false, rd p0_c_bv (List.map (int IntKind.u8) p0_c_b)), (true, ow 3 (Value.slice none 0 0) (List.map (int i64) ([] : List (Int)))), (true, bx b3 26 [(int i64 0), (Value.slice none 0 0)])]) hM rfl hN rfl
   have hM := hM.pk [4, 0, 1, 2, 3] (by decide) (pc rfl (pc rfl (pc rfl (pc rfl (pc rfl pn)))))
   obtain ⟨w, hr, hM⟩ := hM.st_agg (us := [(int i64 r94.1), v95]) (ρ := a.eval) (dst := none) (ty := _) (pos := _) (af := _) (gd := _) (x := .tmp 2) (y := .tmp 43) (hS.ev rfl) (hS.ev rfl) ty_sz_26 (all1_cons rfl (all1_cons (rd_one (rd_of_ow (hM.get 2 rfl))) all1_nil)) rfl
   refine st_unit hS rfl rfl hr ?_
   refine wpList_nil ?_
   refine hK91 _ _ ?_
   refine wp_ret ?_
   cases hF
   exact hQr _ _ (r_c hS rfl ⟨_, rfl, run_loadAgg ty_ag_26 (hM.get 0 rfl) ty_sz_26⟩ ⟨v95, rfl, hM.pk [1, 2] (by decide) (pc rfl (pc rfl pn))⟩)
  ·refine cond_f hS rfl hc ?_
   refine wp_skip ?_
   refine hK7 _ _ ?_
   refine wp_seq_k fun K96 hK96 => ?_
   refine wp_region_lit ?_
   refine st_val hS rfl rfl (by decide) (rv_move (hS.ev rfl)) fun a hS => ?_
   refine st_val hS rfl rfl (by decide) (rv_move (hS.ev rfl)) fun a hS => ?_
   obtain ⟨r99, hr, hF⟩ := bind_some hF
   have hM := hM.pk [0, 1, 2, 3] (by decide) (pc rfl (pc rfl (pc rfl (pc rfl pn))))
   have hP := Mem.pre (A := [(true, bx p0_cb 84 [p0_c_bv, (int i64 r54.2.1), (int i64 r54.2.2)])]) (C := [(false, rd p0_c_bv (List.map (int IntKind.u8) p0_c_b))]) (B := [(true, ow 3 (Value.slice none 0 0) (List.map (int i64) ([] : List (Int)))), (true, bx b3 26 [(int i64 0), (Value.slice none 0 0)])]) hM rfl (weaks_cons (weak_self _ _) weaks_nil)
   refine st_wp hS rfl (wp_call hS rfl rfl (by decide) fn_ok_97 rfl (c_spec_l2Random F p0_c_b r54.2.1 r54.2.2 (i64.wrap (1 + r6.1)) 4 p0_c_bv p0_cb hr _ hP) fun v w a hK hS => ?_)
   obtain ⟨v100, rfl, hN⟩ := hK
   have hM := Mem.callo (A := [(true, bx p0_cb 84 [p0_c_bv, (int i64 r54.2.1), (int i64 r54.2.2)])]) (B := [(false, rd p0_c_bv (List.map (int IntKind.u8) p0_c_b)), (true, ow 3 (Value.slice none 0 0) (List.map (int i64) ([] : List (Int)))), (true, bx b3 26 [(int i64 0), (Value.slice none 0 0)])]) hM rfl hN rfl
   have hM := hM.pk [4, 0, 1, 2, 3] (by decide) (pc rfl (pc rfl (pc rfl (pc rfl (pc rfl pn)))))
   obtain ⟨w, hr, hM⟩ := hM.st_agg (us := [(int i64 r99.1), v100]) (ρ := a.eval) (dst := none) (ty := _) (pos := _) (af := _) (gd := _) (x := .tmp 2) (y := .tmp 46) (hS.ev rfl) (hS.ev rfl) ty_sz_26 (all1_cons rfl (all1_cons (rd_one (rd_of_ow (hM.get 2 rfl))) all1_nil)) rfl
   refine st_unit hS rfl rfl hr ?_
   refine wpList_nil ?_
   refine hK96 _ _ ?_
   refine wp_ret ?_
   cases hF
   exact hQr _ _ (r_c hS rfl ⟨_, rfl, run_loadAgg ty_ag_26 (hM.get 0 rfl) ty_sz_26⟩ ⟨v100, rfl, hM.pk [1, 2] (by decide) (pc rfl (pc rfl pn))⟩)


theorem c_spec_l2Any (F : Nat) (p0_c_b : List Int) (p0_c_i : Int) (p0_c_h : Int) (p0_c_bv : Value) (p0_cb : Nat) {r : Int × (List (Int)) × Int × Int} (hF : S_spec_l2Any F p0_c_b p0_c_i p0_c_h = some r) (w0 : World) (hM : Mem (feet [(true, bx p0_cb 84 [p0_c_bv, (int i64 p0_c_i), (int i64 p0_c_h)])]) w0 w0 [(true, bx p0_cb 84 [p0_c_bv, (int i64 p0_c_i), (int i64 p0_c_h)]), (false, rd p0_c_bv (List.map (int IntKind.u8) p0_c_b))]) :
    Calls Tryd.prog 76 [(fdp p0_cb 0)].toArray w0 (retPost fun v w' => ∃ v37, v = (Value.agg #[(int i64 r.1), v37]) ∧ Mem (feet [(true, bx p0_cb 84 [p0_c_bv, (int i64 p0_c_i), (int i64 p0_c_h)])]) w0 w' [(true, bx p0_cb 84 [p0_c_bv, (int i64 r.2.2.1), (int i64 r.2.2.2)]), (true, ow 3 v37 (List.map (int i64) r.2.1))]) := by
 have hM := hM.pk [1, 0] (by decide) (pc rfl (pc rfl pn))
 refine enter2 Tryd.func76 rfl rfl rfl fun Q a hQr hQn hQp hS => ?_
 have hS : Sl 23 [(0, (fdp p0_cb 0))] a := hS
 unfold S_spec_l2Any at hF
 refine wp_seq_k fun K1 hK1 => ?_
 refine wp_region_lit ?_
 obtain ⟨b3, w, hr, hM⟩ := hM.allocE (ρ := a.eval) (dst := some 2) (ty := _) (pos := _) (af := _) (gd := _) (T := 26) (P := Tryd.prog) [(int i64 0), (Value.slice none 0 0)] ty_zr_26 rfl
 refine st_val hS rfl rfl (by decide) hr fun a hS => ?_
 have hM := hM.addNil 3
 refine wpList_nil ?_
 refine hK1 _ _ ?_
 refine wp_seq_k fun K4 hK4 => ?_
 refine wp_region_lit ?_
 refine st_val hS rfl rfl (by decide) (rv_move (hS.ev rfl)) fun a hS => ?_
 obtain ⟨r8, hr, hF⟩ := bind_some hF
 have hM := hM.pk [3, 2, 0, 1] (by decide) (pc rfl (pc rfl (pc rfl (pc rfl pn))))
 have hP := Mem.pre (A := [(true, bx p0_cb 84 [p0_c_bv, (int i64 p0_c_i), (int i64 p0_c_h)])]) (C := [(false, rd p0_c_bv (List.map (int IntKind.u8) p0_c_b))]) (B := [(true, ow 3 (Value.slice none 0 0) (List.map (int i64) ([] : List (Int)))), (true, bx b3 26 [(int i64 0), (Value.slice none 0 0)])]) hM rfl (weaks_cons (weak_self _ _) weaks_nil)
 refine st_wp hS rfl (wp_call hS rfl rfl (by decide) fn_ok_93 rfl (c_spec_l2Draw F p0_c_b p0_c_i p0_c_h p0_c_bv p0_cb hr _ hP) fun v w a hK hS => ?_)
 obtain ⟨v9, rfl, hN⟩ := hK
 have hM := Mem.callo (A := [(true, bx p0_cb 84 [p0_c_bv, (int i64 p0_c_i), (int i64 p0_c_h)])]) (B := [(false, rd p0_c_bv (List.map (int IntKind.u8) p0_c_b)), (true, ow 3 (Value.slice none 0 0) (List.map (int i64) ([] : List (Int)))), (true, bx b3 26 [(int i64 0), (Value.slice none 0 0)])]) hM rfl hN rfl
 obtain ⟨b10, w, hr, hM⟩ := hM.allocE (ρ := a.eval) (dst := some 3) (ty := _) (pos := _) (af := _) (gd := _) (T := 26) (P := Tryd.prog) [(int i64 0), (Value.slice none 0 0)] ty_zr_26 rfl
 refine st_val hS rfl rfl (by decide) hr fun a hS => ?_
 have hM := hM.addNil 3
 have hM := hM.pk [1, 0, 2, 3, 4, 5, 6] (by decide) (pc rfl (pc rfl (pc rfl (pc rfl (pc rfl (pc rfl (pc rfl pn)))))))
 obtain ⟨w, hr, hM⟩ := hM.st_agg (us := [(int i64 r8.1), v9]) (ρ := a.eval) (dst := none) (ty := _) (pos := _) (af := _) (gd := _) (x := .tmp 3) (y := .tmp 5) (hS.ev rfl) (hS.ev rfl) ty_sz_26 (all1_cons rfl (all1_cons (rd_one (rd_of_ow (hM.get 3 rfl))) all1_nil)) rfl
 refine st_unit hS rfl rfl hr ?_
 refine wpList_nil ?_
 refine hK4 _ _ ?_
 refine wp_seq_k fun K11 hK11 => ?_
 have hJ1 : ∀ (x22 : Int) (l23 : List Int) (x24 : Int) (x25 : Int) (a : Act) (w : World), Sl 23 [(2, (fdp b3 0)), (3, (fdp b10 0))] a → Mem (feet [(true, bx p0_cb 84 [p0_c_bv, (int i64 p0_c_i), (int i64 p0_c_h)])]) w0 w [(true, bx b3 26 [(int i64 0), (Value.slice none 0 0)]), (true, ow 3 (Value.slice none 0 0) (List.map (int i64) ([] : List (Int)))), (true, bx b10 26 [(int i64 x22), v9]), (true, ow 3 v9 (List.map (int i64) l23)), (true, bx p0_cb 84 [p0_c_bv, (int i64 x24), (int i64 x25)]), (false, rd p0_c_bv (List.map (int IntKind.u8) p0_c_b))] → S_spec_l2Any_j1 F x22 l23 x24 x25 = some r → K11 a w := by
  intro x22 l23 x24 x25 a w hS hM hF
  unfold S_spec_l2Any_j1 at hF
  refine hK11 _ _ ?_
  refine wp_seq_k fun K26 hK26 => ?_
  refine wp_region_lit ?_
  refine st_val hS rfl rfl (by decide) (rv_load_agg (hS.ev rfl) ty_ag_26 (hM.get 2 rfl) ty_sz_26) fun a hS => ?_
  obtain ⟨w, hr, hM⟩ := hM.st_agg (us := [(int i64 x22), v9]) (ρ := a.eval) (dst := none) (ty := _) (pos := _) (af := _) (gd := _) (x := .tmp 2) (y := .tmp 22) (hS.ev rfl) (hS.ev rfl) ty_sz_26 (all1_cons rfl (all1_cons (rd_one (rd_of_ow (hM.get 3 rfl))) all1_nil)) rfl
  refine st_unit hS rfl rfl hr ?_
  refine wpList_nil ?_
  refine hK26 _ _ ?_
  refine wp_ret ?_
  cases hF
  exact hQr _ _ (r_c hS rfl ⟨_, rfl, run_loadAgg ty_ag_26 (hM.get 0 rfl) ty_sz_26⟩ ⟨v9, rfl, hM.pk [4, 3] (by decide) (pc rfl (pc rfl pn))⟩)
 refine wp_seq_k fun K27 hK27 => ?_
 refine wp_region_lit ?_
 refine st_val hS rfl rfl (by decide) (rv_move (hS.ev rfl)) fun a hS => ?_
 obtain ⟨r29, hr, hF⟩ := bind_some hF
 have hM := hM.pk [2, 4, 0, 1, 3, 5, 6] (by decide) (pc rfl (pc rfl (pc rfl (pc rfl (pc rfl (pc rfl (pc rfl pn)))))))
 have hP := Mem.pre (A := [(true, bx p0_cb 84 [p0_c_bv, (int i64 r8.2.2.1), (int i64 r8.2.2.2)])]) (C := [(false, rd p0_c_bv (List.map (int IntKind.u8) p0_c_b))]) (B := [(true, bx b10 26 [(int i64 r8.1), v9]), (true, ow 3 (Value.slice none 0 0) (List.map (int i64) ([] : List (Int)))), (true, ow 3 v9 (List.map (int i64) r8.2.1)), (true, ow 3 (Value.slice none 0 0) (List.map (int i64) ([] : List (Int)))), (true, bx b3 26 [(int i64 0), (Value.slice none 0 0)])]) hM rfl (weaks_cons (weak_self _ _) weaks_nil)
 refine st_wp hS rfl (wp_call hS rfl rfl (by decide) fn_ok_72 rfl (c_spec_l1Below F p0_c_b r8.2.2.1 r8.2.2.2 18 p0_c_bv p0_cb hr _ hP) fun v w a hK hS => ?_)
 obtain ⟨rfl, hN⟩ := hK
 have hM := Mem.callo (A := [(true, bx p0_cb 84 [p0_c_bv, (int i64 r8.2.2.1), (int i64 r8.2.2.2)])]) (B := [(false, rd p0_c_bv (List.map (int IntKind.u8) p0_c_b)), (true, bx b10 26 [(int i64 r8.1), v9]), (true, ow 3 (Value.slice none 0 0) (List.map (int i64) ([] : List (Int)))), (true, ow 3 v9 (List.map (int i64) r8.2.1)), (true, ow 3 (Value.slice none 0 0) (List.map (int i64) ([] : List (Int)))), (true, bx b3 26 [(int i64 0), (Value.slice none 0 0)])]) hM rfl hN rfl
 refine wpList_nil ?_
 refine hK27 _ _ ?_
 refine wp_block ?_
 refine wp_seq_k fun K30 hK30 => ?_
 refine wp_region_lit ?_
 refine st_val hS rfl rfl (by decide) (rv_eql (hS.ev rfl) (hS.ev rfl)) fun a hS => ?_
 refine st_val hS rfl rfl (by decide) (rv_assign (hS.ev rfl)) fun a hS => ?_
 refine wpList_nil ?_
 refine hK30 _ _ ?_
 rcases ite_some hF with ⟨hc, hF⟩ | ⟨hc, hF⟩
 ·refine cond_t hS rfl hc ?_
  refine wp_region_lit ?_
  refine st_val hS rfl rfl (by decide) (rv_move (hS.ev rfl)) fun a hS => ?_
  obtain ⟨v31, w, hr, hM⟩ := Mem.litE (f := (int i64)) (dst := some 11) (ty := _) (pos := _) (af := _) (gd := _) (ps := [(0, .const (int i64 0)), (1, .const (int i64 (-1))), (2, .const (int i64 8)), (3, .const (int i64 3))]) ([0, (-1), 8, 3] : List (Int)) i64_one hM hS Tryd.underlying24 ty_el_3 rfl rfl rfl rfl
  refine st_val hS rfl rfl (by decide) hr fun a hS => ?_
  obtain ⟨r32, hr, hF⟩ := bind_some hF
  have hM := hM.pk [1, 2, 0, 3, 4, 5, 6, 7] (by decide) (pc rfl (pc rfl (pc rfl (pc rfl (pc rfl (pc rfl (pc rfl (pc rfl pn))))))))
  have hP := Mem.pre (A := [(true, bx p0_cb 84 [p0_c_bv, (int i64 r29.2.1), (int i64 r29.2.2)])]) (C := [(false, rd p0_c_bv (List.map (int IntKind.u8) p0_c_b)), (true, ow 3 v31 (List.map (int i64) ([0, (-1), 8, 3] : List (Int))))]) (B := [(true, bx b10 26 [(int i64 r8.1), v9]), (true, ow 3 (Value.slice none 0 0) (List.map (int i64) ([] : List (Int)))), (true, ow 3 v9 (List.map (int i64) r8.2.1)), (true, ow 3 (Value.slice none 0 0) (List.map (int i64) ([] : List (Int)))), (true, bx b3 26 [(int i64 0), (Value.slice none 0 0)])]) hM rfl (weaks_cons (weak_self _ _) (weaks_cons (weak_ow _ _ _ _) weaks_nil))
  refine st_wp hS rfl (wp_call hS rfl rfl (by decide) fn_ok_74 rfl (c_spec_l1PickInt F p0_c_b r29.2.1 r29.2.2 ([0, (-1), 8, 3] : List (Int)) p0_c_bv p0_cb v31 hr _ hP) fun v w a hK hS => ?_)
  obtain ⟨rfl, hN⟩ := hK
  have hM := Mem.callo (A := [(true, bx p0_cb 84 [p0_c_bv, (int i64 r29.2.1), (int i64 r29.2.2)])]) (B := [(false, rd p0_c_bv (List.map (int IntKind.u8) p0_c_b)), (true, ow 3 v31 (List.map (int i64) ([0, (-1), 8, 3] : List (Int)))), (true, bx b10 26 [(int i64 r8.1), v9]), (true, ow 3 (Value.slice none 0 0) (List.map (int i64) ([] : List (Int)))), (true, ow 3 v9 (List.map (int i64) r8.2.1)), (true, ow 3 (Value.slice none 0 0) (List.map (int i64) ([] : List (Int)))), (true, bx b3 26 [(int i64 0), (Value.slice none 0 0)])]) hM rfl hN rfl
  refine st_val hS rfl rfl (by decide) (rv_fieldAddr ty_fd_26_0 (hS.ev rfl)) fun a hS => ?_
  have hM := hM.pk [3, 0, 1, 2, 4, 5, 6, 7] (by decide) (pc rfl (pc rfl (pc rfl (pc rfl (pc rfl (pc rfl (pc rfl (pc rfl pn))))))))
  obtain ⟨w, hr, hM⟩ := hM.st_bx1 (n := 0) (cs' := [(int i64 r32.1), v9]) (ρ := a.eval) (dst := none) (ty := _) (pos := _) (af := _) (gd := _) (x := .tmp 13) (y := .tmp 12) (hS.ev rfl) (hS.ev rfl) ty_sz_3 rfl rfl rfl
  refine st_unit hS rfl rfl hr ?_
  refine wpList_nil ?_
  exact hJ1 r32.1 r8.2.1 r32.2.1 r32.2.2 _ _ (hS.sub (sub_cons rfl (sub_cons rfl sub_nil))) (hM.pk [7, 6, 0, 5, 1, 2] (by decide) (pc rfl (pc rfl (pc rfl (pc rfl (pc rfl (pc rfl pn))))))) hF
 ·refine cond_f hS rfl hc ?_
  refine wp_seq_k fun K33 hK33 => ?_
  refine wp_region_lit ?_
  refine st_val hS rfl rfl (by decide) (rv_eql (hS.ev rfl) (hS.ev rfl)) fun a hS => ?_
  refine st_val hS rfl rfl (by decide) (rv_assign (hS.ev rfl)) fun a hS => ?_
  refine wpList_nil ?_
  refine hK33 _ _ ?_
  rcases ite_some hF with ⟨hc, hF⟩ | ⟨hc, hF⟩
  ·refine cond_t hS rfl hc ?_
   have hM := hM.pk [0, 4, 1, 2, 3, 5, 6] (by decide) (pc rfl (pc rfl (pc rfl (pc rfl (pc rfl (pc rfl (pc rfl pn)))))))
   refine an_startB 7 (feet [(true, bx p0_cb 84 [p0_c_bv, (int i64 r29.2.1), (int i64 r29.2.2)]), (true, ow 3 v9 (List.map (int i64) r8.2.1))]) ty_mixed (by kernel_rfl) fun w hf => ?_
   have hM := hM.fra hf
   have hB := hM
   have hM := Mem.regA (A := [(true, bx p0_cb 84 [p0_c_bv, (int i64 r29.2.1), (int i64 r29.2.2)]), (true, ow 3 v9 (List.map (int i64) r8.2.1))]) (R := [(false, rd p0_c_bv (List.map (int IntKind.u8) p0_c_b)), (true, bx b10 26 [(int i64 r8.1), v9]), (true, ow 3 (Value.slice none 0 0) (List.map (int i64) ([] : List (Int)))), (true, ow 3 (Value.slice none 0 0) (List.map (int i64) ([] : List (Int)))), (true, bx b3 26 [(int i64 0), (Value.slice none 0 0)])]) hB rfl
   refine tkB hS 0 1 (by kernel_rfl) rfl rfl rfl hQp rfl (fun w' hC' => (rv_fieldAddr ty_fd_26_1 (hS.ev rfl))) hM.fr fun a hS => ?_
   refine tkB hS 1 3 (by kernel_rfl) rfl rfl rfl hQp rfl (fun w' hC' => (rv_load_bx (hS.ev rfl) ty_ag_24 (Mem.getFA (A := [(true, bx p0_cb 84 [p0_c_bv, (int i64 r29.2.1), (int i64 r29.2.2)]), (true, ow 3 v9 (List.map (int i64) r8.2.1))]) (R := [(false, rd p0_c_bv (List.map (int IntKind.u8) p0_c_b)), (true, bx b10 26 [(int i64 r8.1), v9]), (true, ow 3 (Value.slice none 0 0) (List.map (int i64) ([] : List (Int)))), (true, ow 3 (Value.slice none 0 0) (List.map (int i64) ([] : List (Int)))), (true, bx b3 26 [(int i64 0), (Value.slice none 0 0)])]) hB rfl 1 rfl hC') rfl)) hM.fr fun a hS => ?_
   refine tkB hS 2 7 (by kernel_rfl) rfl rfl rfl hQp rfl (fun w' hC' => (rv_move (hS.ev rfl))) hM.fr fun a hS => ?_
   obtain ⟨v34, w, hr, hM⟩ := Mem.litE (f := (int i64)) (dst := some 19) (ty := _) (pos := _) (af := _) (gd := _) (ps := [(0, .const (int i64 (-1))), (1, .const (int i64 1)), (2, .const (int i64 2)), (3, .const (int i64 128)), (4, .const (int i64 9223372036854775807))]) ([(-1), 1, 2, 128, 9223372036854775807] : List (Int)) i64_one hM hS Tryd.underlying24 ty_el_3 rfl rfl rfl rfl
   refine an_oneB hS (i := 3) 15 (by kernel_rfl) rfl (by kernel_rfl) rfl ?_
   refine wp_val hS rfl (by decide) hr fun a hS => ⟨hM.fr, ?_⟩
   obtain ⟨r35, hr, hF⟩ := bind_some hF
   have hM := hM.pk [1, 3, 0, 2, 4, 5, 6, 7] (by decide) (pc rfl (pc rfl (pc rfl (pc rfl (pc rfl (pc rfl (pc rfl (pc rfl pn))))))))
   have hP := Mem.pre (A := [(true, bx p0_cb 84 [p0_c_bv, (int i64 r29.2.1), (int i64 r29.2.2)])]) (C := [(false, rd p0_c_bv (List.map (int IntKind.u8) p0_c_b)), (true, ow 3 v34 (List.map (int i64) ([(-1), 1, 2, 128, 9223372036854775807] : List (Int))))]) (B := [(true, ow 3 v9 (List.map (int i64) r8.2.1)), (false, bx b10 26 [(int i64 r8.1), v9]), (false, ow 3 (Value.slice none 0 0) (List.map (int i64) ([] : List (Int)))), (false, ow 3 (Value.slice none 0 0) (List.map (int i64) ([] : List (Int)))), (false, bx b3 26 [(int i64 0), (Value.slice none 0 0)])]) hM rfl (weaks_cons (weak_self _ _) (weaks_cons (weak_ow _ _ _ _) weaks_nil))
   refine an_oneB hS (i := 4) 31 (by kernel_rfl) rfl (by kernel_rfl) rfl ?_
   refine wp_call hS rfl rfl (by decide) fn_ok_74 rfl (c_spec_l1PickInt F p0_c_b r29.2.1 r29.2.2 ([(-1), 1, 2, 128, 9223372036854775807] : List (Int)) p0_c_bv p0_cb v34 hr _ hP) fun v w a hK hS => ?_
   obtain ⟨rfl, hN⟩ := hK
   have hM := Mem.callo (A := [(true, bx p0_cb 84 [p0_c_bv, (int i64 r29.2.1), (int i64 r29.2.2)])]) (B := [(false, rd p0_c_bv (List.map (int IntKind.u8) p0_c_b)), (true, ow 3 v34 (List.map (int i64) ([(-1), 1, 2, 128, 9223372036854775807] : List (Int)))), (true, ow 3 v9 (List.map (int i64) r8.2.1)), (false, bx b10 26 [(int i64 r8.1), v9]), (false, ow 3 (Value.slice none 0 0) (List.map (int i64) ([] : List (Int)))), (false, ow 3 (Value.slice none 0 0) (List.map (int i64) ([] : List (Int)))), (false, bx b3 26 [(int i64 0), (Value.slice none 0 0)])]) hM rfl hN rfl
   refine ⟨hM.fr, ?_⟩
   obtain ⟨x36, hx, hF⟩ := bind_some hF
   obtain ⟨hi0, hi1, hex36⟩ := idxL_some hx
   refine tkB hS 5 63 (by kernel_rfl) rfl rfl rfl hQp rfl (fun w' hC' => (rv_indexAddr Tryd.underlying24 ty_el_3 (hS.ev rfl) (hS.ev rfl) (rd_of_ow (hM.get 3 rfl)) hi0 (map_len hi1))) hM.fr fun a hS => ?_
   have hM := hM.pk [3, 0, 1, 2, 4, 5, 6, 7] (by decide) (pc rfl (pc rfl (pc rfl (pc rfl (pc rfl (pc rfl (pc rfl (pc rfl pn))))))))
   obtain ⟨w, hr, hM⟩ := hM.st_el (f := (int i64)) (n := (0 : Int).toNat) (c := r35.1) (ρ := a.eval) (dst := none) (ty := _) (pos := _) (af := _) (gd := _) (x := .tmp 21) (y := .tmp 20) i64_one (hS.ev rfl) (hS.ev rfl) ty_sz_3 (List.getElem?_eq_some_iff.1 hex36).1
   refine an_oneB hS (i := 6) 127 (by kernel_rfl) rfl (by kernel_rfl) rfl ?_
   refine wp_unit hS rfl hr ⟨hM.fr, ?_⟩
   refine an_done (by kernel_rfl) ?_
   have hN := hM.pk [0, 1, 3] (by decide) (pc rfl (pc rfl (pc rfl pn)))
   have hM := Mem.callo (A := [(true, bx p0_cb 84 [p0_c_bv, (int i64 r29.2.1), (int i64 r29.2.2)]), (true, ow 3 v9 (List.map (int i64) r8.2.1))]) (B := [(false, rd p0_c_bv (List.map (int IntKind.u8) p0_c_b)), (true, bx b10 26 [(int i64 r8.1), v9]), (true, ow 3 (Value.slice none 0 0) (List.map (int i64) ([] : List (Int)))), (true, ow 3 (Value.slice none 0 0) (List.map (int i64) ([] : List (Int)))), (true, bx b3 26 [(int i64 0), (Value.slice none 0 0)])]) hB rfl (hN.memS fun _ h => h) rfl
   exact hJ1 r8.1 (r8.2.1.set ((0 : Int).toNat) r35.1) r35.2.1 r35.2.2 _ _ (hS.sub (sub_cons rfl (sub_cons rfl sub_nil))) (hM.pk [7, 6, 4, 0, 1, 3] (by decide) (pc rfl (pc rfl (pc rfl (pc rfl (pc rfl (pc rfl pn))))))) hF
  ·refine cond_f hS rfl hc ?_
   refine wp_skip ?_
   exact hJ1 r8.1 r8.2.1 r29.2.1 r29.2.2 _ _ (hS.sub (sub_cons rfl (sub_cons rfl sub_nil))) (hM.pk [6, 5, 2, 4, 0, 1] (by decide) (pc rfl (pc rfl (pc rfl (pc rfl (pc rfl (pc rfl pn))))))) hF


theorem c_spec_DrawFormatGraph (F : Nat) (p0_code : List Int) (p0_codev : Value) {r : Int × (List (Int))} (hF : S_spec_DrawFormatGraph F p0_code = some r) (w0 : World) (h0 : RdRow w0 p0_codev (List.map (int IntKind.u8) p0_code)) :
    Calls Tryd.prog 33 [p0_codev].toArray w0 (retPost fun v w' => ∃ v13, v = (Value.agg #[(int i64 r.1), v13]) ∧ Mem Nob w0 w' [(true, ow 3 v13 (List.map (int i64) r.2))]) := by
 have hM : Mem Nob w0 w0 [(false, rd p0_codev (List.map (int IntKind.u8) p0_code))] := (Mem.rcons (Mem.nil w0) h0 (by simp))
 refine enter2 Tryd.func33 rfl rfl rfl fun Q a hQr hQn hQp hS => ?_
 have hS : Sl 6 [(0, p0_codev)] a := hS
 unfold S_spec_DrawFormatGraph at hF
 refine wp_seq_k fun K1 hK1 => ?_
 refine wp_region_lit ?_
 obtain ⟨b3, w, hr, hM⟩ := hM.allocE (ρ := a.eval) (dst := some 2) (ty := _) (pos := _) (af := _) (gd := _) (T := 26) (P := Tryd.prog) [(int i64 0), (Value.slice none 0 0)] ty_zr_26 rfl
 refine st_val hS rfl rfl (by decide) hr fun a hS => ?_
 have hM := hM.addNil 3
 refine wpList_nil ?_
 refine hK1 _ _ ?_
 refine wp_seq_k fun K4 hK4 => ?_
 refine wp_region_lit ?_
 refine st_val hS rfl rfl (by decide) (rv_move (hS.ev rfl)) fun a hS => ?_
 obtain ⟨r9, hr, hF⟩ := bind_some hF
 refine st_wp hS rfl (wp_call hS rfl rfl (by decide) fn_ok_71 rfl (c_spec_l1New F p0_code p0_codev hr _ (hM.get 2 rfl)) fun v w a hK hS => ?_)
 obtain ⟨b10, rfl, hN⟩ := hK
 have hM := hM.add hN rfl
 obtain ⟨r11, hr, hF⟩ := bind_some hF
 have hM := hM.pk [0, 3, 1, 2] (by decide) (pc rfl (pc rfl (pc rfl (pc rfl pn))))
 have hP := Mem.pre (A := [(true, bx b10 84 [p0_codev, (int i64 r9.1), (int i64 r9.2)])]) (C := [(false, rd p0_codev (List.map (int IntKind.u8) p0_code))]) (B := [(true, ow 3 (Value.slice none 0 0) (List.map (int i64) ([] : List (Int)))), (true, bx b3 26 [(int i64 0), (Value.slice none 0 0)])]) hM rfl (weaks_cons (weak_self _ _) weaks_nil)
 refine st_wp hS rfl (wp_call hS rfl rfl (by decide) fn_ok_76 rfl (c_spec_l2Any F p0_code r9.1 r9.2 p0_codev b10 hr _ hP) fun v w a hK hS => ?_)
 obtain ⟨v12, rfl, hN⟩ := hK
 have hM := Mem.callo (A := [(true, bx b10 84 [p0_codev, (int i64 r9.1), (int i64 r9.2)])]) (B := [(false, rd p0_codev (List.map (int IntKind.u8) p0_code)), (true, ow 3 (Value.slice none 0 0) (List.map (int i64) ([] : List (Int)))), (true, bx b3 26 [(int i64 0), (Value.slice none 0 0)])]) hM rfl hN rfl
 have hM := hM.pk [4, 0, 1, 2, 3] (by decide) (pc rfl (pc rfl (pc rfl (pc rfl (pc rfl pn)))))
 obtain ⟨w, hr, hM⟩ := hM.st_agg (us := [(int i64 r11.1), v12]) (ρ := a.eval) (dst := none) (ty := _) (pos := _) (af := _) (gd := _) (x := .tmp 2) (y := .tmp 5) (hS.ev rfl) (hS.ev rfl) ty_sz_26 (all1_cons rfl (all1_cons (rd_one (rd_of_ow (hM.get 2 rfl))) all1_nil)) rfl
 refine st_unit hS rfl rfl hr ?_
 refine wpList_nil ?_
 refine hK4 _ _ ?_
 have hS : Sl 6 [(2, (fdp b3 0))] a := hS.sub (sub_cons rfl sub_nil)
 have hM := hM.pk [0, 2] (by decide) (pc rfl (pc rfl pn))
 refine wp_ret ?_
 cases hF
 exact hQr _ _ (r_c hS rfl ⟨_, rfl, run_loadAgg ty_ag_26 (hM.get 0 rfl) ty_sz_26⟩ ⟨v12, rfl, hM.pk [1] (by decide) (pc rfl pn)⟩)


theorem c_impl_FormatInt (F : Nat) (p0_n : Int) {r : (List UInt8)} (hF : S_impl_FormatInt F p0_n = some r) (w0 : World) (h0 : (tabR Tryd.prog tabN).P w0) :
    Calls Tryd.prog 77 [(int i64 p0_n)].toArray w0 (retPost fun v w' => v = (Value.string (bs r)) ∧ Mem Nob w0 w' []) := by
 have hM : Mem Nob w0 w0 [(false, tabR Tryd.prog tabN)] := (Mem.gcons (Mem.nil w0) h0 (by simp))
 refine enter2 Tryd.func77 rfl rfl rfl fun Q a hQr hQn hQp hS => ?_
 have hS : Sl 5 [(0, (int i64 p0_n))] a := hS
 unfold S_impl_FormatInt at hF
 refine wp_seq_k fun K1 hK1 => ?_
 refine wp_region_lit ?_
 refine st_val hS rfl rfl (by decide) (rv_assign (hS.ev rfl)) fun a hS => ?_
 refine wpList_nil ?_
 refine hK1 _ _ ?_
 refine wp_seq_k fun K2 hK2 => ?_
 refine wp_region_lit ?_
 refine st_val hS rfl rfl (by decide) (rv_move (hS.ev rfl)) fun a hS => ?_
 obtain ⟨r4, hr, hF⟩ := bind_some hF
 refine st_wp hS rfl (wp_call hS rfl rfl (by decide) fn_ok_94 rfl (c_strconv_Itoa F p0_n hr _ (hM.get 0 rfl)) fun v w a hK hS => ?_)
 obtain ⟨rfl, hN⟩ := hK
 have hM := hM.fra hN.fr
 refine st_val hS rfl rfl (by decide) (rv_assign (hS.ev rfl)) fun a hS => ?_
 refine wpList_nil ?_
 refine hK2 _ _ ?_
 refine wp_ret ?_
 cases hF
 exact hQr _ _ (r_1 hS rfl rfl ⟨rfl, hM.pk [] (by decide) pn⟩)


theorem c_impl_FormatGraph (F : Nat) (p0_g_Size : Int) (p0_g_Rows : List Int) (p0_g_Rowsv : Value) {r : (List UInt8)} (hF : S_impl_FormatGraph F p0_g_Size p0_g_Rows = some r) (w0 : World) (h0 : RdRow w0 p0_g_Rowsv (List.map (int i64) p0_g_Rows)) (h1 : (tabR Tryd.prog tabN).P w0) :
    Calls Tryd.prog 34 [(Value.agg #[(int i64 p0_g_Size), p0_g_Rowsv])].toArray w0 (retPost fun v w' => v = (Value.string (bs r)) ∧ Mem Nob w0 w' []) := by
 have hM : Mem Nob w0 w0 [(false, rd p0_g_Rowsv (List.map (int i64) p0_g_Rows)), (false, tabR Tryd.prog tabN)] := (Mem.rcons (Mem.gcons (Mem.nil w0) h1 (by simp)) h0 (by simp))
 refine enter2 Tryd.func34 rfl rfl rfl fun Q a hQr hQn hQp hS => ?_
 have hS : Sl 34 [(0, (Value.agg #[(int i64 p0_g_Size), p0_g_Rowsv]))] a := hS
 unfold S_impl_FormatGraph at hF
 refine wp_seq_k fun K1 hK1 => ?_
 refine wp_region_lit ?_
 obtain ⟨b3, w, hr, hM⟩ := hM.boxE (ρ := a.eval) (dst := some 1) (ty := _) (pos := _) (af := _) (gd := _) (x := .tmp 0) (T := 26) [(int i64 p0_g_Size), p0_g_Rowsv] (hS.ev rfl) rfl
 refine st_val hS rfl rfl (by decide) hr fun a hS => ?_
 refine st_val hS rfl rfl (by decide) (rv_assign (hS.ev rfl)) fun a hS => ?_
 refine wpList_nil ?_
 refine hK1 _ _ ?_
 refine wp_seq_k fun K4 hK4 => ?_
 refine wp_seq_k fun K9 hK9 => ?_
 refine wp_region_lit ?_
 refine st_val hS rfl rfl (by decide) (rv_load_agg (hS.ev rfl) ty_ag_26 (hM.get 0 rfl) ty_sz_26) fun a hS => ?_
 obtain ⟨r11, hr, hF⟩ := bind_some hF
 refine st_wp hS rfl (wp_call hS rfl rfl (by decide) fn_ok_40 rfl (c_impl_IsGraph F p0_g_Size p0_g_Rows p0_g_Rowsv hr _ (hM.get 1 rfl)) fun v w a hK hS => ?_)
 obtain ⟨rfl, hN⟩ := hK
 have hM := hM.fra hN.fr
 refine st_val hS rfl rfl (by decide) (rv_not (hS.ev rfl)) fun a hS => ?_
 refine wpList_nil ?_
 refine hK9 _ _ ?_
 rcases ite_some hF with ⟨hc, hF⟩ | ⟨hc, hF⟩
 ·refine cond_t hS rfl hc ?_
  refine wp_seq_k fun K12 hK12 => ?_
  refine wp_region_lit ?_
  refine st_val hS rfl rfl (by decide) (rv_assign (hS.ev rfl)) fun a hS => ?_
  refine wpList_nil ?_
  refine hK12 _ _ ?_
  refine wp_ret ?_
  cases hF
  exact hQr _ _ (r_1 hS rfl rfl ⟨rfl, hM.pk [] (by decide) pn⟩)
 ·refine cond_f hS rfl hc ?_
  refine wp_skip ?_
  refine hK4 _ _ ?_
  refine wp_seq_k fun K13 hK13 => ?_
  refine wp_region_lit ?_
  refine st_val hS rfl rfl (by decide) (rv_fieldAddr ty_fd_26_0 (hS.ev rfl)) fun a hS => ?_
  refine st_val hS rfl rfl (by decide) (rv_load_bx (hS.ev rfl) ty_ag_3 (hM.get 0 rfl) rfl) fun a hS => ?_
  obtain ⟨r15, hr, hF⟩ := bind_some hF
  refine st_wp hS rfl (wp_call hS rfl rfl (by decide) fn_ok_77 rfl (c_impl_FormatInt F p0_g_Size hr _ (hM.get 2 rfl)) fun v w a hK hS => ?_)
  obtain ⟨rfl, hN⟩ := hK
  have hM := hM.fra hN.fr
  obtain ⟨_, hx, hF⟩ := bind_some hF
  have hi0 := catO_some hx
  refine st_val hS rfl rfl (by decide) (rv_str_add (hS.ev rfl) (hS.ev rfl) hi0) fun a hS => ?_
  refine st_val hS rfl rfl (by decide) (rv_assign (hS.ev rfl)) fun a hS => ?_
  refine wpList_nil ?_
  refine hK13 _ _ ?_
  have hS : Sl 34 [(1, (fdp b3 0)), (3, (Value.string (bs (r15 ++ ([58] : List UInt8)))))] a := hS.sub (sub_cons rfl (sub_cons rfl sub_nil))
  refine wp_seq_k fun K16 hK16 => ?_
  have hJ1 : ∀ (s68 : List UInt8) (a : Act) (w : World), Sl 34 [(3, (Value.string (bs s68)))] a → Mem Nob w0 w [(false, tabR Tryd.prog tabN)] → S_impl_FormatGraph_j1 F s68 = some r → K16 a w := by
   intro s68 a w hS hM hF
   unfold S_impl_FormatGraph_j1 at hF
   refine hK16 _ _ ?_
   refine wp_seq_k fun K69 hK69 => ?_
   refine wp_region_lit ?_
   refine st_val hS rfl rfl (by decide) (rv_move (hS.ev rfl)) fun a hS => ?_
   refine st_val hS rfl rfl (by decide) (rv_assign (hS.ev rfl)) fun a hS => ?_
   refine wpList_nil ?_
   refine hK69 _ _ ?_
   refine wp_ret ?_
   cases hF
   exact hQr _ _ (r_1 hS rfl rfl ⟨rfl, hM.pk [] (by decide) pn⟩)
  refine wp_seq_k fun K70 hK70 => ?_
  refine wp_region_lit ?_
  refine st_val hS rfl rfl (by decide) (rv_load_agg (hS.ev rfl) ty_ag_26 (hM.get 0 rfl) ty_sz_26) fun a hS => ?_
  obtain ⟨r74, hr, hF⟩ := bind_some hF
  refine st_wp hS rfl (wp_call hS rfl rfl (by decide) fn_ok_29 rfl (c_impl_EdgesOf F p0_g_Size p0_g_Rows p0_g_Rowsv hr _ (hM.get 1 rfl)) fun v w a hK hS => ?_)
  obtain ⟨v75, hs76, hv0, hN⟩ := hK
  subst v
  have hM := hM.add hN rfl
  refine st_val hS rfl rfl (by decide) (rv_len_mxM Tryd.underlying40 (hS.ev rfl) (hM.get 0 rfl)) fun a hS => ?_
  refine st_val hS rfl rfl (by decide) (rv_move (hS.ev rfl)) fun a hS => ?_
  refine wpList_nil ?_
  refine hK70 _ _ ?_
  refine wp_block ?_
  obtain ⟨lb2, hl2, hF2⟩ := bind_some hF
  refine wp_loop_sh (fun s => S_impl_FormatGraph_l2 F r74 s.1 s.2) (fun s a w => Sl 34 [(3, (Value.string (bs s.1))), (14, v75), (15, (int i64 (r74.length : Int))), (16, (int i64 s.2))] a ∧ Mem Nob w0 w [(true, mx 24 3 v75 hs76 (List.map (List.map (int i64)) r74)), (false, tabR Tryd.prog tabN)]) hl2 ⟨(hS.sub (sub_cons rfl (sub_cons rfl (sub_cons rfl (sub_cons rfl sub_nil))))), (hM.pk [0, 3] (by decide) (pc rfl (pc rfl pn)))⟩ ?_
  rintro K2 ⟨s77, x78⟩ a w res2 ⟨hS, hM⟩ hF hN2 hX2
  have hF : S_impl_FormatGraph_l2 F r74 s77 x78 = some res2 := hF
  have hS : Sl 34 [(3, (Value.string (bs s77))), (14, v75), (15, (int i64 (r74.length : Int))), (16, (int i64 x78))] a := hS
  have hM : Mem Nob w0 w [(true, mx 24 3 v75 hs76 (List.map (List.map (int i64)) r74)), (false, tabR Tryd.prog tabN)] := hM
  unfold S_impl_FormatGraph_l2 at hF
  refine wp_seq_k fun K100 hK100 => ?_
  refine wp_region_lit ?_
  refine st_val hS rfl rfl (by decide) (rv_lss (hS.ev rfl) (hS.ev rfl)) fun a hS => ?_
  refine wpList_nil ?_
  refine hK100 _ _ ?_
  refine wp_seq_k fun K101 hK101 => ?_
  rcases ite_some hF with ⟨hc, hF⟩ | ⟨hc, hF⟩
  ·refine cond_t hS rfl hc ?_
   refine wp_skip ?_
   refine hK101 _ _ ?_
   refine wp_seq_k fun K102 hK102 => ?_
   refine wp_block ?_
   refine wp_seq_k fun K112 hK112 => ?_
   refine wp_region_lit ?_
   obtain ⟨x115, hx, hF⟩ := bind_some hF
   obtain ⟨hi0, hi1, hex115⟩ := idxL_some hx
   refine st_val hS rfl rfl (by decide) (rv_indexAddr Tryd.underlying40 ty_el_24 (hS.ev rfl) (hS.ev rfl) (mx_rd (hM.get 0 rfl)) hi0 (mx_lt (hM.get 0 rfl) hi1)) fun a hS => ?_
   obtain ⟨v116, hgx115⟩ := mx_get (hM.get 0 rfl) (mget hex115)
   refine st_val hS rfl rfl (by decide) (rv_load_el (hS.ev rfl) ty_ag_24 (mx_rd (hM.get 0 rfl)) hgx115) fun a hS => ?_
   refine st_val hS rfl rfl (by decide) (rv_assign (hS.ev rfl)) fun a hS => ?_
   refine wpList_nil ?_
   refine hK112 _ _ ?_
   refine an_startB 13 Nob ty_mixed (by kernel_rfl) fun w hf => ?_
   have hM := hM.fra hf
   have hB := hM
   have hM := hB.reg0
   try dsimp only [ro] at hM
   refine tkB hS 0 1 (by kernel_rfl) rfl rfl rfl hQp rfl (fun w' hC' => (rv_move (hS.ev rfl))) hM.fr fun a hS => ?_
   refine tkB hS 1 3 (by kernel_rfl) rfl rfl rfl hQp rfl (fun w' hC' => (rv_move (hS.ev rfl))) hM.fr fun a hS => ?_
   obtain ⟨x117, hx, hF⟩ := bind_some hF
   obtain ⟨hi0, hi1, hex117⟩ := idxL_some hx
   refine tkB hS 2 7 (by kernel_rfl) rfl rfl rfl hQp rfl (fun w' hC' => (rv_indexAddr Tryd.underlying24 ty_el_3 (hS.ev rfl) (hS.ev rfl) (mx_row (hM.get 0 rfl) hgx115 (mget hex115)) hi0 (map_len hi1))) hM.fr fun a hS => ?_
   refine tkB hS 3 15 (by kernel_rfl) rfl rfl rfl hQp rfl (fun w' hC' => (rv_load_el (hS.ev rfl) ty_ag_3 (mx_row ((hB.fra hC').get 0 rfl) hgx115 (mget hex115)) (mget hex117))) hM.fr fun a hS => ?_
   refine tkB hS 6 79 (by kernel_rfl) rfl rfl rfl hQp rfl (fun w' hC' => (rv_move (hS.ev rfl))) hM.fr fun a hS => ?_
   obtain ⟨x118, hx, hF⟩ := bind_some hF
   obtain ⟨hi0, hi1, hex118⟩ := idxL_some hx
   refine tkB hS 7 207 (by kernel_rfl) rfl rfl rfl hQp rfl (fun w' hC' => (rv_indexAddr Tryd.underlying24 ty_el_3 (hS.ev rfl) (hS.ev rfl) (mx_row (hM.get 0 rfl) hgx115 (mget hex115)) hi0 (map_len hi1))) hM.fr fun a hS => ?_
   refine tkB hS 8 463 (by kernel_rfl) rfl rfl rfl hQp rfl (fun w' hC' => (rv_load_el (hS.ev rfl) ty_ag_3 (mx_row ((hB.fra hC').get 0 rfl) hgx115 (mget hex115)) (mget hex118))) hM.fr fun a hS => ?_
   obtain ⟨r119, hr, hF⟩ := bind_some hF
   refine an_oneB hS (i := 4) 479 (by kernel_rfl) rfl (by kernel_rfl) rfl ?_
   refine wp_call hS rfl rfl (by decide) fn_ok_77 rfl (c_impl_FormatInt F x117 hr _ (hM.get 1 rfl)) fun v w a hK hS => ?_
   obtain ⟨rfl, hN⟩ := hK
   have hM := hM.fra hN.fr
   refine ⟨hM.fr, ?_⟩
   obtain ⟨_, hx, hF⟩ := bind_some hF
   have hi0 := catO_some hx
   refine tkB hS 5 511 (by kernel_rfl) rfl rfl rfl hQp rfl (fun w' hC' => (rv_str_add (hS.ev rfl) (hS.ev rfl) hi0)) hM.fr fun a hS => ?_
   obtain ⟨r120, hr, hF⟩ := bind_some hF
   refine an_oneB hS (i := 9) 1023 (by kernel_rfl) rfl (by kernel_rfl) rfl ?_
   refine wp_call hS rfl rfl (by decide) fn_ok_77 rfl (c_impl_FormatInt F x118 hr _ (hM.get 1 rfl)) fun v w a hK hS => ?_
   obtain ⟨rfl, hN⟩ := hK
   have hM := hM.fra hN.fr
   refine ⟨hM.fr, ?_⟩
   obtain ⟨_, hx, hF⟩ := bind_some hF
   have hi0 := catO_some hx
   refine tkB hS 10 2047 (by kernel_rfl) rfl rfl rfl hQp rfl (fun w' hC' => (rv_str_add (hS.ev rfl) (hS.ev rfl) hi0)) hM.fr fun a hS => ?_
   obtain ⟨_, hx, hF⟩ := bind_some hF
   have hi0 := catO_some hx
   refine tkB hS 11 4095 (by kernel_rfl) rfl rfl rfl hQp rfl (fun w' hC' => (rv_str_add (hS.ev rfl) (hS.ev rfl) hi0)) hM.fr fun a hS => ?_
   refine tkB hS 12 8191 (by kernel_rfl) rfl rfl rfl hQp rfl (fun w' hC' => (rv_assign (hS.ev rfl))) hM.fr fun a hS => ?_
   refine an_done (by kernel_rfl) ?_
   have hN := hM.pk [] (by decide) pn
   have hM := Mem.callo0 hB hN rfl
   refine hK102 _ _ ?_
   have hS : Sl 34 [(3, (Value.string (bs (s77 ++ ((([32] : List UInt8) ++ r119) ++ r120))))), (14, v75), (15, (int i64 (r74.length : Int))), (16, (int i64 x78))] a := hS.sub (sub_cons rfl (sub_cons rfl (sub_cons rfl (sub_cons rfl sub_nil))))
   refine wp_region_lit ?_
   refine st_val hS rfl rfl (by decide) (rv_add (hS.ev rfl) (hS.ev rfl)) fun a hS => ?_
   refine st_val hS rfl rfl (by decide) (rv_move (hS.ev rfl)) fun a hS => ?_
   refine wpList_nil ?_
   cases hF
   exact hN2 _ _ _ rfl ⟨(hS.sub (sub_cons rfl (sub_cons rfl (sub_cons rfl (sub_cons rfl sub_nil))))), (hM.pk [0, 1] (by decide) (pc rfl (pc rfl pn)))⟩
  ·refine cond_f hS rfl hc ?_
   refine wp_exit ?_
   cases hF
   exact hJ1 s77 _ _ (hS.sub (sub_cons rfl sub_nil)) (hM.pk [1] (by decide) (pc rfl pn)) (by have e := hX2 _ rfl; subst e; exact hF2)


theorem c_impl_ParseGraph (F : Nat) (p0_s : List UInt8) {r : Int × (List (Int)) × Bool} (hF : S_impl_ParseGraph F p0_s = some r) (w0 : World) (h0 : (tabR Tryd.prog tabN).P w0) :
    Calls Tryd.prog 35 [(Value.string (bs p0_s))].toArray w0 (retPost fun v w' => ∃ v395, v = (Value.tuple #[(Value.agg #[(int i64 r.1), v395]), (Value.bool r.2.2)]) ∧ Mem Nob w0 w' [(true, ow 3 v395 (List.map (int i64) r.2.1))]) := by
 have hM : Mem Nob w0 w0 [(false, tabR Tryd.prog tabN)] := (Mem.gcons (Mem.nil w0) h0 (by simp))
 refine enter2 Tryd.func35 rfl rfl rfl fun Q a hQr hQn hQp hS => ?_
 have hS : Sl 89 [(0, (Value.string (bs p0_s)))] a := hS
 unfold S_impl_ParseGraph at hF
 refine wp_seq_k fun K1 hK1 => ?_
 refine wp_region_lit ?_
 obtain ⟨b3, w, hr, hM⟩ := hM.allocE (ρ := a.eval) (dst := some 2) (ty := _) (pos := _) (af := _) (gd := _) (T := 26) (P := Tryd.prog) [(int i64 0), (Value.slice none 0 0)] ty_zr_26 rfl
 refine st_val hS rfl rfl (by decide) hr fun a hS => ?_
 have hM := hM.addNil 3
 refine st_val hS rfl rfl (by decide) (rv_assign (hS.ev rfl)) fun a hS => ?_
 refine wpList_nil ?_
 refine hK1 _ _ ?_
 refine wp_seq_k fun K4 hK4 => ?_
 refine wp_seq_k fun K12 hK12 => ?_
 have hJ1 : ∀ (p15 : Bool) (a : Act) (w : World), Sl 89 [(0, (Value.string (bs p0_s))), (2, (fdp b3 0)), (18, (Value.bool p15))] a → Mem Nob w0 w [(true, bx b3 26 [(int i64 0), (Value.slice none 0 0)]), (true, ow 3 (Value.slice none 0 0) (List.map (int i64) ([] : List (Int)))), (false, tabR Tryd.prog tabN)] → S_impl_ParseGraph_j1 F p0_s p15 = some r → K12 a w := by
  intro p15 a w hS hM hF
  unfold S_impl_ParseGraph_j1 at hF
  refine hK12 _ _ ?_
  rcases ite_some hF with ⟨hc, hF⟩ | ⟨hc, hF⟩
  ·refine cond_t hS rfl hc ?_
   refine wp_seq_k fun K16 hK16 => ?_
   refine wp_region_lit ?_
   refine st_val hS rfl rfl (by decide) (rv_build hS ty_st_26 rfl (by simp) ones_nil) fun a hS => ?_
   obtain ⟨w, hr, hM⟩ := hM.st_agg (us := [(int i64 0), (Value.slice none 0 0)]) (ρ := a.eval) (dst := none) (ty := _) (pos := _) (af := _) (gd := _) (x := .tmp 2) (y := .tmp 19) (hS.ev rfl) (hS.ev rfl) ty_sz_26 (all1_cons rfl (all1_cons rfl all1_nil)) rfl
   refine st_unit hS rfl rfl hr ?_
   have hM := hM.addNil 3
   refine st_val hS rfl rfl (by decide) (rv_assign (hS.ev rfl)) fun a hS => ?_
   refine wpList_nil ?_
   refine hK16 _ _ ?_
   refine wp_ret ?_
   cases hF
   exact hQr _ _ (r_cc hS rfl ⟨_, rfl, run_loadAgg ty_ag_26 (hM.get 1 rfl) ty_sz_26⟩ rfl ⟨(Value.slice none 0 0), rfl, hM.pk [0] (by decide) (pc rfl pn)⟩)
  ·refine cond_f hS rfl hc ?_
   refine wp_skip ?_
   refine hK4 _ _ ?_
   refine wp_seq_k fun K17 hK17 => ?_
   refine wp_region_lit ?_
   refine st_val hS rfl rfl (by decide) (rv_move (hS.ev rfl)) fun a hS => ?_
   obtain ⟨x19, hx, hF⟩ := bind_some hF
   obtain ⟨hi0, hi1, hi2⟩ := idxL_some hx
   refine st_val hS rfl rfl (by decide) (rv_index Tryd.underlying9 (hS.ev rfl) (hS.ev rfl) hi0 hi2) fun a hS => ?_
   refine st_val hS rfl rfl (by decide) (rv_conv Tryd.underlying5 Tryd.underlying3 (hS.ev rfl)) fun a hS => ?_
   refine st_val hS rfl rfl (by decide) (rv_sub (hS.ev rfl) (hS.ev rfl)) fun a hS => ?_
   refine st_val hS rfl rfl (by decide) (rv_assign (hS.ev rfl)) fun a hS => ?_
   refine wpList_nil ?_
   refine hK17 _ _ ?_
   refine wp_seq_k fun K20 hK20 => ?_
   refine wp_region_lit ?_
   refine st_val hS rfl rfl (by decide) (rv_move (hS.ev rfl)) fun a hS => ?_
   refine st_val hS rfl rfl (by decide) (rv_move (hS.ev rfl)) fun a hS => ?_
   obtain ⟨_, hx, hF⟩ := bind_some hF
   obtain ⟨v23, w, hr, hM⟩ := hM.makeE (f := (int i64)) (c := (0 : Int)) (ρ := a.eval) (dst := some 26) (ty := _) (pos := _) (af := _) (gd := _) (x := .tmp 25) (y := .tmp 25) Tryd.underlying24 ty_el_3 i64_one (by decide) (hS.ev rfl) (hS.ev rfl) (mkO_some hx)
   refine st_val hS rfl rfl (by decide) hr fun a hS => ?_
   refine st_val hS rfl rfl (by decide) (rv_build hS ty_st_26 rfl (by simp) (ones_cons (by rw [hS.ev (v := (int i64 (i64.wrap ((i64.wrap (x19.toNat : Int)) - 48)))) rfl]; rfl) (ones_cons (by rw [hS.ev (v := v23) rfl]; exact rd_one (rd_of_ow (hM.get 0 rfl))) ones_nil))) fun a hS => ?_
   obtain ⟨b24, w, hr, hM⟩ := hM.allocE (ρ := a.eval) (dst := some 5) (ty := _) (pos := _) (af := _) (gd := _) (T := 26) (P := Tryd.prog) [(int i64 0), (Value.slice none 0 0)] ty_zr_26 rfl
   refine st_val hS rfl rfl (by decide) hr fun a hS => ?_
   have hM := hM.addNil 3
   have hM := hM.pk [1, 0, 2, 3, 4, 5] (by decide) (pc rfl (pc rfl (pc rfl (pc rfl (pc rfl (pc rfl pn))))))
   obtain ⟨w, hr, hM⟩ := hM.st_agg (us := [(int i64 (i64.wrap ((i64.wrap (x19.toNat : Int)) - 48))), v23]) (ρ := a.eval) (dst := none) (ty := _) (pos := _) (af := _) (gd := _) (x := .tmp 5) (y := .tmp 27) (hS.ev rfl) (hS.ev rfl) ty_sz_26 (all1_cons rfl (all1_cons (rd_one (rd_of_ow (hM.get 2 rfl))) all1_nil)) rfl
   refine st_unit hS rfl rfl hr ?_
   refine wpList_nil ?_
   refine hK20 _ _ ?_
   have hS : Sl 89 [(0, (Value.string (bs p0_s))), (2, (fdp b3 0)), (4, (int i64 (i64.wrap ((i64.wrap (x19.toNat : Int)) - 48)))), (5, (fdp b24 0))] a := hS.sub (sub_cons rfl (sub_cons rfl (sub_cons rfl (sub_cons rfl sub_nil))))
   have hM := hM.pk [0, 2, 3, 4, 5] (by decide) (pc rfl (pc rfl (pc rfl (pc rfl (pc rfl pn)))))
   refine wp_seq_k fun K25 hK25 => ?_
   have hJ2 : ∀ (l204 : List Int) (a : Act) (w : World), Sl 89 [(0, (Value.string (bs p0_s))), (2, (fdp b3 0)), (5, (fdp b24 0))] a → Mem Nob w0 w [(true, bx b3 26 [(int i64 0), (Value.slice none 0 0)]), (true, ow 3 (Value.slice none 0 0) (List.map (int i64) ([] : List (Int)))), (true, bx b24 26 [(int i64 (i64.wrap ((i64.wrap (x19.toNat : Int)) - 48))), v23]), (true, ow 3 v23 (List.map (int i64) l204)), (false, tabR Tryd.prog tabN)] → S_impl_ParseGraph_j2 F p0_s x19 l204 = some r → K25 a w := by
    intro l204 a w hS hM hF
    unfold S_impl_ParseGraph_j2 at hF
    refine hK25 _ _ ?_
    refine wp_seq_k fun K205 hK205 => ?_
    refine wp_seq_k fun K210 hK210 => ?_
    refine wp_region_lit ?_
    refine st_val hS rfl rfl (by decide) (rv_load_agg (hS.ev rfl) ty_ag_26 (hM.get 2 rfl) ty_sz_26) fun a hS => ?_
    obtain ⟨r212, hr, hF⟩ := bind_some hF
    refine st_wp hS rfl (wp_call hS rfl rfl (by decide) fn_ok_34 rfl (c_impl_FormatGraph F (i64.wrap ((i64.wrap (x19.toNat : Int)) - 48)) l204 v23 hr _ (rd_of_ow (hM.get 3 rfl)) (hM.get 4 rfl)) fun v w a hK hS => ?_)
    obtain ⟨rfl, hN⟩ := hK
    have hM := hM.fra hN.fr
    refine st_val hS rfl rfl (by decide) (rv_move (hS.ev rfl)) fun a hS => ?_
    refine st_val hS rfl rfl (by decide) (rv_str_neq (hS.ev rfl) (hS.ev rfl)) fun a hS => ?_
    refine wpList_nil ?_
    refine hK210 _ _ ?_
    rcases ite_some hF with ⟨hc, hF⟩ | ⟨hc, hF⟩
    ·refine cond_t hS rfl hc ?_
     refine wp_seq_k fun K213 hK213 => ?_
     refine wp_region_lit ?_
     refine st_val hS rfl rfl (by decide) (rv_build hS ty_st_26 rfl (by simp) ones_nil) fun a hS => ?_
     obtain ⟨w, hr, hM⟩ := hM.st_agg (us := [(int i64 0), (Value.slice none 0 0)]) (ρ := a.eval) (dst := none) (ty := _) (pos := _) (af := _) (gd := _) (x := .tmp 2) (y := .tmp 87) (hS.ev rfl) (hS.ev rfl) ty_sz_26 (all1_cons rfl (all1_cons rfl all1_nil)) rfl
     refine st_unit hS rfl rfl hr ?_
     have hM := hM.addNil 3
     refine st_val hS rfl rfl (by decide) (rv_assign (hS.ev rfl)) fun a hS => ?_
     refine wpList_nil ?_
     refine hK213 _ _ ?_
     have hS : Sl 89 [(2, (fdp b3 0)), (3, (Value.bool false))] a := hS.sub (sub_cons rfl (sub_cons rfl sub_nil))
     have hM := hM.pk [0, 1, 5] (by decide) (pc rfl (pc rfl (pc rfl pn)))
     refine wp_ret ?_
     cases hF
     exact hQr _ _ (r_cc hS rfl ⟨_, rfl, run_loadAgg ty_ag_26 (hM.get 1 rfl) ty_sz_26⟩ rfl ⟨(Value.slice none 0 0), rfl, hM.pk [0] (by decide) (pc rfl pn)⟩)
    ·refine cond_f hS rfl hc ?_
     refine wp_skip ?_
     refine hK205 _ _ ?_
     refine wp_seq_k fun K214 hK214 => ?_
     refine wp_region_lit ?_
     refine st_val hS rfl rfl (by decide) (rv_load_agg (hS.ev rfl) ty_ag_26 (hM.get 2 rfl) ty_sz_26) fun a hS => ?_
     obtain ⟨w, hr, hM⟩ := hM.st_agg (us := [(int i64 (i64.wrap ((i64.wrap (x19.toNat : Int)) - 48))), v23]) (ρ := a.eval) (dst := none) (ty := _) (pos := _) (af := _) (gd := _) (x := .tmp 2) (y := .tmp 88) (hS.ev rfl) (hS.ev rfl) ty_sz_26 (all1_cons rfl (all1_cons (rd_one (rd_of_ow (hM.get 3 rfl))) all1_nil)) rfl
     refine st_unit hS rfl rfl hr ?_
     refine st_val hS rfl rfl (by decide) (rv_assign (hS.ev rfl)) fun a hS => ?_
     refine wpList_nil ?_
     refine hK214 _ _ ?_
     refine wp_ret ?_
     cases hF
     exact hQr _ _ (r_cc hS rfl ⟨_, rfl, run_loadAgg ty_ag_26 (hM.get 0 rfl) ty_sz_26⟩ rfl ⟨v23, rfl, hM.pk [3] (by decide) (pc rfl pn)⟩)
   refine wp_seq_k fun K215 hK215 => ?_
   refine wp_region_lit ?_
   refine st_val hS rfl rfl (by decide) (rv_assign (hS.ev rfl)) fun a hS => ?_
   refine wpList_nil ?_
   refine hK215 _ _ ?_
   refine wp_block ?_
   obtain ⟨lb3, hl3, hF3⟩ := bind_some hF
   refine wp_loop_sh (fun s => S_impl_ParseGraph_l3 F p0_s x19 s.1 s.2) (fun s a w => Sl 89 [(0, (Value.string (bs p0_s))), (2, (fdp b3 0)), (4, (int i64 (i64.wrap ((i64.wrap (x19.toNat : Int)) - 48)))), (5, (fdp b24 0)), (6, (int i64 s.2))] a ∧ Mem Nob w0 w [(true, bx b3 26 [(int i64 0), (Value.slice none 0 0)]), (true, ow 3 (Value.slice none 0 0) (List.map (int i64) ([] : List (Int)))), (true, bx b24 26 [(int i64 (i64.wrap ((i64.wrap (x19.toNat : Int)) - 48))), v23]), (true, ow 3 v23 (List.map (int i64) s.1)), (false, tabR Tryd.prog tabN)]) hl3 ⟨(hS.sub (sub_cons rfl (sub_cons rfl (sub_cons rfl (sub_cons rfl (sub_cons rfl sub_nil)))))), (hM.pk [2, 3, 0, 1, 4] (by decide) (pc rfl (pc rfl (pc rfl (pc rfl (pc rfl pn))))))⟩ ?_
   rintro K3 ⟨l275, x276⟩ a w res3 ⟨hS, hM⟩ hF hN3 hX3
   have hF : S_impl_ParseGraph_l3 F p0_s x19 l275 x276 = some res3 := hF
   have hS : Sl 89 [(0, (Value.string (bs p0_s))), (2, (fdp b3 0)), (4, (int i64 (i64.wrap ((i64.wrap (x19.toNat : Int)) - 48)))), (5, (fdp b24 0)), (6, (int i64 x276))] a := hS
   have hM : Mem Nob w0 w [(true, bx b3 26 [(int i64 0), (Value.slice none 0 0)]), (true, ow 3 (Value.slice none 0 0) (List.map (int i64) ([] : List (Int)))), (true, bx b24 26 [(int i64 (i64.wrap ((i64.wrap (x19.toNat : Int)) - 48))), v23]), (true, ow 3 v23 (List.map (int i64) l275)), (false, tabR Tryd.prog tabN)] := hM
   unfold S_impl_ParseGraph_l3 at hF
   refine wp_seq_k fun K335 hK335 => ?_
   refine wp_seq_k fun K337 hK337 => ?_
   refine wp_region_lit ?_
   refine st_val hS rfl rfl (by decide) (rv_move (hS.ev rfl)) fun a hS => ?_
   refine st_val hS rfl rfl (by decide) (rv_add (hS.ev rfl) (hS.ev rfl)) fun a hS => ?_
   refine st_val hS rfl rfl (by decide) (rv_move (hS.ev rfl)) fun a hS => ?_
   refine st_val hS rfl rfl (by decide) (rv_len_str Tryd.underlying9 (hS.ev rfl)) fun a hS => ?_
   refine st_val hS rfl rfl (by decide) (rv_lss (hS.ev rfl) (hS.ev rfl)) fun a hS => ?_
   refine wpList_nil ?_
   refine hK337 _ _ ?_
   rcases ite_some hF with ⟨hc, hF⟩ | ⟨hc, hF⟩
   ·refine cond_t hS rfl hc ?_
    refine wp_skip ?_
    refine hK335 _ _ ?_
    refine wp_seq_k fun K338 hK338 => ?_
    refine wp_block ?_
    refine wp_seq_k fun K366 hK366 => ?_
    refine an_startB 14 Nob ty_mixed (by kernel_rfl) fun w hf => ?_
    have hM := hM.fra hf
    have hB := hM
    have hM := hB.reg0
    try dsimp only [ro] at hM
    refine tkB hS 0 1 (by kernel_rfl) rfl rfl rfl hQp rfl (fun w' hC' => (rv_move (hS.ev rfl))) hM.fr fun a hS => ?_
    refine tkB hS 1 3 (by kernel_rfl) rfl rfl rfl hQp rfl (fun w' hC' => (rv_move (hS.ev rfl))) hM.fr fun a hS => ?_
    refine tkB hS 2 7 (by kernel_rfl) rfl rfl rfl hQp rfl (fun w' hC' => (rv_add (hS.ev rfl) (hS.ev rfl))) hM.fr fun a hS => ?_
    obtain ⟨x369, hx, hF⟩ := bind_some hF
    obtain ⟨hi0, hi1, hi2⟩ := idxL_some hx
    refine tkB hS 3 15 (by kernel_rfl) rfl rfl rfl hQp rfl (fun w' hC' => (rv_index Tryd.underlying9 (hS.ev rfl) (hS.ev rfl) hi0 hi2)) hM.fr fun a hS => ?_
    refine tkB hS 4 31 (by kernel_rfl) rfl rfl rfl hQp rfl (fun w' hC' => (rv_conv Tryd.underlying5 Tryd.underlying3 (hS.ev rfl))) hM.fr fun a hS => ?_
    refine tkB hS 5 63 (by kernel_rfl) rfl rfl rfl hQp rfl (fun w' hC' => (rv_sub (hS.ev rfl) (hS.ev rfl))) hM.fr fun a hS => ?_
    refine tkB hS 6 127 (by kernel_rfl) rfl rfl rfl hQp rfl (fun w' hC' => (rv_move (hS.ev rfl))) hM.fr fun a hS => ?_
    refine tkB hS 7 255 (by kernel_rfl) rfl rfl rfl hQp rfl (fun w' hC' => (rv_move (hS.ev rfl))) hM.fr fun a hS => ?_
    refine tkB hS 8 511 (by kernel_rfl) rfl rfl rfl hQp rfl (fun w' hC' => (rv_add (hS.ev rfl) (hS.ev rfl))) hM.fr fun a hS => ?_
    obtain ⟨x370, hx, hF⟩ := bind_some hF
    obtain ⟨hi0, hi1, hi2⟩ := idxL_some hx
    refine tkB hS 9 1023 (by kernel_rfl) rfl rfl rfl hQp rfl (fun w' hC' => (rv_index Tryd.underlying9 (hS.ev rfl) (hS.ev rfl) hi0 hi2)) hM.fr fun a hS => ?_
    refine tkB hS 10 2047 (by kernel_rfl) rfl rfl rfl hQp rfl (fun w' hC' => (rv_conv Tryd.underlying5 Tryd.underlying3 (hS.ev rfl))) hM.fr fun a hS => ?_
    refine tkB hS 11 4095 (by kernel_rfl) rfl rfl rfl hQp rfl (fun w' hC' => (rv_sub (hS.ev rfl) (hS.ev rfl))) hM.fr fun a hS => ?_
    refine tkB hS 12 8191 (by kernel_rfl) rfl rfl rfl hQp rfl (fun w' hC' => (rv_assign (hS.ev rfl))) hM.fr fun a hS => ?_
    refine tkB hS 13 16383 (by kernel_rfl) rfl rfl rfl hQp rfl (fun w' hC' => (rv_assign (hS.ev rfl))) hM.fr fun a hS => ?_
    refine an_done (by kernel_rfl) ?_
    have hN := hM.pk [] (by decide) pn
    have hM := Mem.callo0 hB hN rfl
    refine hK366 _ _ ?_
    have hS : Sl 89 [(0, (Value.string (bs p0_s))), (2, (fdp b3 0)), (4, (int i64 (i64.wrap ((i64.wrap (x19.toNat : Int)) - 48)))), (5, (fdp b24 0)), (6, (int i64 x276)), (7, (int i64 (i64.wrap ((i64.wrap (x369.toNat : Int)) - 48)))), (8, (int i64 (i64.wrap ((i64.wrap (x370.toNat : Int)) - 48))))] a := hS.sub (sub_cons rfl (sub_cons rfl (sub_cons rfl (sub_cons rfl (sub_cons rfl (sub_cons rfl (sub_cons rfl sub_nil)))))))
    refine wp_seq_k fun K371 hK371 => ?_
    refine wp_seq_k fun K379 hK379 => ?_
    have hJ4 : ∀ (p382 : Bool) (a : Act) (w : World), Sl 89 [(0, (Value.string (bs p0_s))), (2, (fdp b3 0)), (4, (int i64 (i64.wrap ((i64.wrap (x19.toNat : Int)) - 48)))), (5, (fdp b24 0)), (6, (int i64 x276)), (7, (int i64 (i64.wrap ((i64.wrap (x369.toNat : Int)) - 48)))), (8, (int i64 (i64.wrap ((i64.wrap (x370.toNat : Int)) - 48)))), (63, (Value.bool p382))] a → Mem Nob w0 w [(true, bx b3 26 [(int i64 0), (Value.slice none 0 0)]), (true, ow 3 (Value.slice none 0 0) (List.map (int i64) ([] : List (Int)))), (true, bx b24 26 [(int i64 (i64.wrap ((i64.wrap (x19.toNat : Int)) - 48))), v23]), (true, ow 3 v23 (List.map (int i64) l275)), (false, tabR Tryd.prog tabN)] → S_impl_ParseGraph_j4 F l275 x276 x369 x370 p382 = some res3 → K379 a w := by
     intro p382 a w hS hM hF
     unfold S_impl_ParseGraph_j4 at hF
     refine hK379 _ _ ?_
     rcases ite_some hF with ⟨hc, hF⟩ | ⟨hc, hF⟩
     ·refine cond_t hS rfl hc ?_
      refine wp_seq_k fun K383 hK383 => ?_
      refine wp_region_lit ?_
      refine st_val hS rfl rfl (by decide) (rv_build hS ty_st_26 rfl (by simp) ones_nil) fun a hS => ?_
      obtain ⟨w, hr, hM⟩ := hM.st_agg (us := [(int i64 0), (Value.slice none 0 0)]) (ρ := a.eval) (dst := none) (ty := _) (pos := _) (af := _) (gd := _) (x := .tmp 2) (y := .tmp 64) (hS.ev rfl) (hS.ev rfl) ty_sz_26 (all1_cons rfl (all1_cons rfl all1_nil)) rfl
      refine st_unit hS rfl rfl hr ?_
      have hM := hM.addNil 3
      refine st_val hS rfl rfl (by decide) (rv_assign (hS.ev rfl)) fun a hS => ?_
      refine wpList_nil ?_
      refine hK383 _ _ ?_
      have hS : Sl 89 [(2, (fdp b3 0)), (3, (Value.bool false))] a := hS.sub (sub_cons rfl (sub_cons rfl sub_nil))
      have hM := hM.pk [0, 1, 5] (by decide) (pc rfl (pc rfl (pc rfl pn)))
      refine wp_ret ?_
      cases hF
      have e := hX3 _ rfl
      subst e
      have hF := hF3
      cases hF
      exact hQr _ _ (r_cc hS rfl ⟨_, rfl, run_loadAgg ty_ag_26 (hM.get 1 rfl) ty_sz_26⟩ rfl ⟨(Value.slice none 0 0), rfl, hM.pk [0] (by decide) (pc rfl pn)⟩)
     ·refine cond_f hS rfl hc ?_
      refine wp_skip ?_
      refine hK371 _ _ ?_
      refine wp_seq_k fun K384 hK384 => ?_
      have hM := hM.pk [3, 0, 1, 2, 4] (by decide) (pc rfl (pc rfl (pc rfl (pc rfl (pc rfl pn)))))
      refine an_startB 10 (feet [(true, ow 3 v23 (List.map (int i64) l275))]) ty_mixed (by kernel_rfl) fun w hf => ?_
      have hM := hM.fra hf
      have hB := hM
      have hM := hB.reg1 rfl
      refine tkB hS 0 1 (by kernel_rfl) rfl rfl rfl hQp rfl (fun w' hC' => (rv_fieldAddr ty_fd_26_1 (hS.ev rfl))) hM.fr fun a hS => ?_
      refine tkB hS 1 3 (by kernel_rfl) rfl rfl rfl hQp rfl (fun w' hC' => (rv_load_bx (hS.ev rfl) ty_ag_24 (hB.getF rfl 2 rfl hC') rfl)) hM.fr fun a hS => ?_
      refine tkB hS 2 7 (by kernel_rfl) rfl rfl rfl hQp rfl (fun w' hC' => (rv_move (hS.ev rfl))) hM.fr fun a hS => ?_
      obtain ⟨x387, hx, hF⟩ := bind_some hF
      obtain ⟨hi0, hi1, hex387⟩ := idxL_some hx
      refine tkB hS 3 15 (by kernel_rfl) rfl rfl rfl hQp rfl (fun w' hC' => (rv_indexAddr Tryd.underlying24 ty_el_3 (hS.ev rfl) (hS.ev rfl) (rd_of_ow (hM.get 0 rfl)) hi0 (map_len hi1))) hM.fr fun a hS => ?_
      refine tkB hS 5 47 (by kernel_rfl) rfl rfl rfl hQp rfl (fun w' hC' => (rv_move (hS.ev rfl))) hM.fr fun a hS => ?_
      obtain ⟨_, hx, hF⟩ := bind_some hF
      have hi0 := nnO_some hx
      refine tkB hS 6 111 (by kernel_rfl) rfl rfl rfl hQp rfl (fun w' hC' => (rv_shl (hS.ev rfl) (hS.ev rfl) hi0)) hM.fr fun a hS => ?_
      refine an_oneB hS (i := 4) 127 (by kernel_rfl) rfl (by kernel_rfl) rfl ?_
      refine wp_val hS rfl (by decide) (rv_load_el (hS.ev rfl) ty_ag_3 (rd_of_ow (hM.get 0 rfl)) (mget hex387)) fun a hS => ⟨hM.fr, ?_⟩
      refine tkB hS 7 255 (by kernel_rfl) rfl rfl rfl hQp rfl (fun w' hC' => (rv_or (hS.ev rfl) (hS.ev rfl))) hM.fr fun a hS => ?_
      obtain ⟨x388, hx, hF⟩ := bind_some hF
      obtain ⟨hi0, hi1, hex388⟩ := idxL_some hx
      refine tkB hS 8 511 (by kernel_rfl) rfl rfl rfl hQp rfl (fun w' hC' => (rv_indexAddr Tryd.underlying24 ty_el_3 (hS.ev rfl) (hS.ev rfl) (rd_of_ow (hM.get 0 rfl)) hi0 (map_len hi1))) hM.fr fun a hS => ?_
      obtain ⟨w, hr, hM⟩ := hM.st_el (f := (int i64)) (n := (i64.wrap ((i64.wrap (x369.toNat : Int)) - 48)).toNat) (c := (bOr x387 (shL 1 (i64.wrap ((i64.wrap (x370.toNat : Int)) - 48))))) (ρ := a.eval) (dst := none) (ty := _) (pos := _) (af := _) (gd := _) (x := .tmp 73) (y := .tmp 72) i64_one (hS.ev rfl) (hS.ev rfl) ty_sz_3 (List.getElem?_eq_some_iff.1 hex388).1
      refine an_oneB hS (i := 9) 1023 (by kernel_rfl) rfl (by kernel_rfl) rfl ?_
      refine wp_unit hS rfl hr ⟨hM.fr, ?_⟩
      refine an_done (by kernel_rfl) ?_
      have hN := hM.pk [0] (by decide) (pc rfl pn)
      have hM := Mem.callo (A := [(true, ow 3 v23 (List.map (int i64) l275))]) (B := [(true, bx b3 26 [(int i64 0), (Value.slice none 0 0)]), (true, ow 3 (Value.slice none 0 0) (List.map (int i64) ([] : List (Int)))), (true, bx b24 26 [(int i64 (i64.wrap ((i64.wrap (x19.toNat : Int)) - 48))), v23]), (false, tabR Tryd.prog tabN)]) hB rfl (hN.memS fun _ h => h) rfl
      refine hK384 _ _ ?_
      have hS : Sl 89 [(0, (Value.string (bs p0_s))), (2, (fdp b3 0)), (4, (int i64 (i64.wrap ((i64.wrap (x19.toNat : Int)) - 48)))), (5, (fdp b24 0)), (6, (int i64 x276)), (7, (int i64 (i64.wrap ((i64.wrap (x369.toNat : Int)) - 48)))), (8, (int i64 (i64.wrap ((i64.wrap (x370.toNat : Int)) - 48))))] a := hS.sub (sub_cons rfl (sub_cons rfl (sub_cons rfl (sub_cons rfl (sub_cons rfl (sub_cons rfl (sub_cons rfl sub_nil)))))))
      refine an_startB 10 (feet [(true, ow 3 v23 (List.map (int i64) (l275.set ((i64.wrap ((i64.wrap (x369.toNat : Int)) - 48)).toNat) (bOr x387 (shL 1 (i64.wrap ((i64.wrap (x370.toNat : Int)) - 48)))))))]) ty_mixed (by kernel_rfl) fun w hf => ?_
      have hM := hM.fra hf
      have hB := hM
      have hM := hB.reg1 rfl
      refine tkB hS 0 1 (by kernel_rfl) rfl rfl rfl hQp rfl (fun w' hC' => (rv_fieldAddr ty_fd_26_1 (hS.ev rfl))) hM.fr fun a hS => ?_
      refine tkB hS 1 3 (by kernel_rfl) rfl rfl rfl hQp rfl (fun w' hC' => (rv_load_bx (hS.ev rfl) ty_ag_24 (hB.getF rfl 2 rfl hC') rfl)) hM.fr fun a hS => ?_
      refine tkB hS 2 7 (by kernel_rfl) rfl rfl rfl hQp rfl (fun w' hC' => (rv_move (hS.ev rfl))) hM.fr fun a hS => ?_
      obtain ⟨x389, hx, hF⟩ := bind_some hF
      obtain ⟨hi0, hi1, hex389⟩ := idxL_some hx
      refine tkB hS 3 15 (by kernel_rfl) rfl rfl rfl hQp rfl (fun w' hC' => (rv_indexAddr Tryd.underlying24 ty_el_3 (hS.ev rfl) (hS.ev rfl) (rd_of_ow (hM.get 0 rfl)) hi0 (map_len hi1))) hM.fr fun a hS => ?_
      refine tkB hS 5 47 (by kernel_rfl) rfl rfl rfl hQp rfl (fun w' hC' => (rv_move (hS.ev rfl))) hM.fr fun a hS => ?_
      obtain ⟨_, hx, hF⟩ := bind_some hF
      have hi0 := nnO_some hx
      refine tkB hS 6 111 (by kernel_rfl) rfl rfl rfl hQp rfl (fun w' hC' => (rv_shl (hS.ev rfl) (hS.ev rfl) hi0)) hM.fr fun a hS => ?_
      refine an_oneB hS (i := 4) 127 (by kernel_rfl) rfl (by kernel_rfl) rfl ?_
      refine wp_val hS rfl (by decide) (rv_load_el (hS.ev rfl) ty_ag_3 (rd_of_ow (hM.get 0 rfl)) (mget hex389)) fun a hS => ⟨hM.fr, ?_⟩
      refine tkB hS 7 255 (by kernel_rfl) rfl rfl rfl hQp rfl (fun w' hC' => (rv_or (hS.ev rfl) (hS.ev rfl))) hM.fr fun a hS => ?_
      obtain ⟨x390, hx, hF⟩ := bind_some hF
      obtain ⟨hi0, hi1, hex390⟩ := idxL_some hx
      refine tkB hS 8 511 (by kernel_rfl) rfl rfl rfl hQp rfl (fun w' hC' => (rv_indexAddr Tryd.underlying24 ty_el_3 (hS.ev rfl) (hS.ev rfl) (rd_of_ow (hM.get 0 rfl)) hi0 (map_len hi1))) hM.fr fun a hS => ?_
      obtain ⟨w, hr, hM⟩ := hM.st_el (f := (int i64)) (n := (i64.wrap ((i64.wrap (x370.toNat : Int)) - 48)).toNat) (c := (bOr x389 (shL 1 (i64.wrap ((i64.wrap (x369.toNat : Int)) - 48))))) (ρ := a.eval) (dst := none) (ty := _) (pos := _) (af := _) (gd := _) (x := .tmp 82) (y := .tmp 81) i64_one (hS.ev rfl) (hS.ev rfl) ty_sz_3 (List.getElem?_eq_some_iff.1 hex390).1
      refine an_oneB hS (i := 9) 1023 (by kernel_rfl) rfl (by kernel_rfl) rfl ?_
      refine wp_unit hS rfl hr ⟨hM.fr, ?_⟩
      refine an_done (by kernel_rfl) ?_
      have hN := hM.pk [0] (by decide) (pc rfl pn)
      have hM := Mem.callo (A := [(true, ow 3 v23 (List.map (int i64) (l275.set ((i64.wrap ((i64.wrap (x369.toNat : Int)) - 48)).toNat) (bOr x387 (shL 1 (i64.wrap ((i64.wrap (x370.toNat : Int)) - 48)))))))]) (B := [(true, bx b3 26 [(int i64 0), (Value.slice none 0 0)]), (true, ow 3 (Value.slice none 0 0) (List.map (int i64) ([] : List (Int)))), (true, bx b24 26 [(int i64 (i64.wrap ((i64.wrap (x19.toNat : Int)) - 48))), v23]), (false, tabR Tryd.prog tabN)]) hB rfl (hN.memS fun _ h => h) rfl
      refine hK338 _ _ ?_
      have hS : Sl 89 [(0, (Value.string (bs p0_s))), (2, (fdp b3 0)), (4, (int i64 (i64.wrap ((i64.wrap (x19.toNat : Int)) - 48)))), (5, (fdp b24 0)), (6, (int i64 x276))] a := hS.sub (sub_cons rfl (sub_cons rfl (sub_cons rfl (sub_cons rfl (sub_cons rfl sub_nil)))))
      refine wp_region_lit ?_
      refine st_val hS rfl rfl (by decide) (rv_move (hS.ev rfl)) fun a hS => ?_
      refine st_val hS rfl rfl (by decide) (rv_add (hS.ev rfl) (hS.ev rfl)) fun a hS => ?_
      refine st_val hS rfl rfl (by decide) (rv_assign (hS.ev rfl)) fun a hS => ?_
      refine wpList_nil ?_
      cases hF
      exact hN3 _ _ _ rfl ⟨(hS.sub (sub_cons rfl (sub_cons rfl (sub_cons rfl (sub_cons rfl (sub_cons rfl sub_nil)))))), (hM.pk [1, 2, 3, 0, 4] (by decide) (pc rfl (pc rfl (pc rfl (pc rfl (pc rfl pn))))))⟩
    refine wp_region_lit ?_
    refine st_val hS rfl rfl (by decide) (rv_move (hS.ev rfl)) fun a hS => ?_
    refine st_val hS rfl rfl (by decide) (rv_move (hS.ev rfl)) fun a hS => ?_
    refine st_val hS rfl rfl (by decide) (rv_sub (hS.ev rfl) (hS.ev rfl)) fun a hS => ?_
    obtain ⟨r391, hr, hF⟩ := bind_some hF
    refine st_wp hS rfl (wp_call hS rfl rfl (by decide) fn_ok_61 rfl (c_impl_within F (i64.wrap ((i64.wrap (x369.toNat : Int)) - 48)) 0 (i64.wrap ((i64.wrap ((i64.wrap (x19.toNat : Int)) - 48)) - 1)) hr _) fun v w a hK hS => ?_)
    obtain ⟨rfl, hN⟩ := hK
    have hM := hM.fra hN.fr
    refine st_val hS rfl rfl (by decide) (rv_not (hS.ev rfl)) fun a hS => ?_
    refine st_val hS rfl rfl (by decide) (rv_move (hS.ev rfl)) fun a hS => ?_
    rcases ite_some hF with ⟨hc, hF⟩ | ⟨hc, hF⟩
    ·have hS := hS.setb (t := 52) rfl hc
     refine st_skip hS rfl rfl (by decide) fun a hS => ?_
     refine st_skip hS rfl rfl (by decide) fun a hS => ?_
     refine st_skip hS rfl rfl (by decide) fun a hS => ?_
     refine st_skip hS rfl rfl (by decide) fun a hS => ?_
     refine st_skip hS rfl rfl (by decide) fun a hS => ?_
     refine st_val hS rfl rfl (by decide) (rv_pick_t (hS.ev rfl) (hS.ev rfl)) fun a hS => ?_
     refine st_val hS rfl rfl (by decide) (rv_move (hS.ev rfl)) fun a hS => ?_
     refine st_skip hS rfl rfl (by decide) fun a hS => ?_
     refine st_skip hS rfl rfl (by decide) fun a hS => ?_
     refine st_skip hS rfl rfl (by decide) fun a hS => ?_
     refine st_val hS rfl rfl (by decide) (rv_pick_t (hS.ev rfl) (hS.ev rfl)) fun a hS => ?_
     refine wpList_nil ?_
     exact hJ4 true _ _ (hS.sub (sub_cons rfl (sub_cons rfl (sub_cons rfl (sub_cons rfl (sub_cons rfl (sub_cons rfl (sub_cons rfl (sub_cons rfl sub_nil))))))))) (hM.pk [0, 1, 2, 3, 4] (by decide) (pc rfl (pc rfl (pc rfl (pc rfl (pc rfl pn)))))) hF
    ·have hS := hS.setb (t := 52) rfl hc
     refine st_val hS rfl rfl (by decide) (rv_move (hS.ev rfl)) fun a hS => ?_
     refine st_val hS rfl rfl (by decide) (rv_move (hS.ev rfl)) fun a hS => ?_
     refine st_val hS rfl rfl (by decide) (rv_sub (hS.ev rfl) (hS.ev rfl)) fun a hS => ?_
     obtain ⟨r392, hr, hF⟩ := bind_some hF
     refine st_wp hS rfl (wp_call hS rfl rfl (by decide) fn_ok_61 rfl (c_impl_within F (i64.wrap ((i64.wrap (x370.toNat : Int)) - 48)) 0 (i64.wrap ((i64.wrap ((i64.wrap (x19.toNat : Int)) - 48)) - 1)) hr _) fun v w a hK hS => ?_)
     obtain ⟨rfl, hN⟩ := hK
     have hM := hM.fra hN.fr
     refine st_val hS rfl rfl (by decide) (rv_not (hS.ev rfl)) fun a hS => ?_
     refine st_val hS rfl rfl (by decide) (rv_pick_f (hS.ev rfl) (hS.ev rfl)) fun a hS => ?_
     refine st_val hS rfl rfl (by decide) (rv_move (hS.ev rfl)) fun a hS => ?_
     rcases ite_some hF with ⟨hc, hF⟩ | ⟨hc, hF⟩
     ·have hS := hS.setb (t := 59) rfl hc
      refine st_skip hS rfl rfl (by decide) fun a hS => ?_
      refine st_skip hS rfl rfl (by decide) fun a hS => ?_
      refine st_skip hS rfl rfl (by decide) fun a hS => ?_
      refine st_val hS rfl rfl (by decide) (rv_pick_t (hS.ev rfl) (hS.ev rfl)) fun a hS => ?_
      refine wpList_nil ?_
      exact hJ4 true _ _ (hS.sub (sub_cons rfl (sub_cons rfl (sub_cons rfl (sub_cons rfl (sub_cons rfl (sub_cons rfl (sub_cons rfl (sub_cons rfl sub_nil))))))))) (hM.pk [0, 1, 2, 3, 4] (by decide) (pc rfl (pc rfl (pc rfl (pc rfl (pc rfl pn)))))) hF
     ·have hS := hS.setb (t := 59) rfl hc
      refine st_val hS rfl rfl (by decide) (rv_move (hS.ev rfl)) fun a hS => ?_
      refine st_val hS rfl rfl (by decide) (rv_move (hS.ev rfl)) fun a hS => ?_
      refine st_val hS rfl rfl (by decide) (rv_eql (hS.ev rfl) (hS.ev rfl)) fun a hS => ?_
      refine st_val hS rfl rfl (by decide) (rv_pick_f (hS.ev rfl) (hS.ev rfl)) fun a hS => ?_
      refine wpList_nil ?_
      exact hJ4 ((i64.wrap ((i64.wrap (x369.toNat : Int)) - 48)) == (i64.wrap ((i64.wrap (x370.toNat : Int)) - 48))) _ _ (hS.sub (sub_cons rfl (sub_cons rfl (sub_cons rfl (sub_cons rfl (sub_cons rfl (sub_cons rfl (sub_cons rfl (sub_cons rfl sub_nil))))))))) (hM.pk [0, 1, 2, 3, 4] (by decide) (pc rfl (pc rfl (pc rfl (pc rfl (pc rfl pn)))))) hF
   ·refine cond_f hS rfl hc ?_
    refine wp_exit ?_
    cases hF
    exact hJ2 l275 _ _ (hS.sub (sub_cons rfl (sub_cons rfl (sub_cons rfl sub_nil)))) (hM.pk [0, 1, 2, 3, 4] (by decide) (pc rfl (pc rfl (pc rfl (pc rfl (pc rfl pn)))))) (by have e := hX3 _ rfl; subst e; exact hF3)
 refine wp_region_lit ?_
 refine st_val hS rfl rfl (by decide) (rv_move (hS.ev rfl)) fun a hS => ?_
 refine st_val hS rfl rfl (by decide) (rv_str_eql (hS.ev rfl) (hS.ev rfl)) fun a hS => ?_
 refine st_val hS rfl rfl (by decide) (rv_move (hS.ev rfl)) fun a hS => ?_
 rcases ite_some hF with ⟨hc, hF⟩ | ⟨hc, hF⟩
 ·have hS := hS.setb (t := 11) rfl hc
  refine st_skip hS rfl rfl (by decide) fun a hS => ?_
  refine st_skip hS rfl rfl (by decide) fun a hS => ?_
  refine st_skip hS rfl rfl (by decide) fun a hS => ?_
  refine st_skip hS rfl rfl (by decide) fun a hS => ?_
  refine st_skip hS rfl rfl (by decide) fun a hS => ?_
  refine st_skip hS rfl rfl (by decide) fun a hS => ?_
  refine st_val hS rfl rfl (by decide) (rv_pick_t (hS.ev rfl) (hS.ev rfl)) fun a hS => ?_
  refine wpList_nil ?_
  exact hJ1 true _ _ (hS.sub (sub_cons rfl (sub_cons rfl (sub_cons rfl sub_nil)))) (hM.pk [1, 0, 2] (by decide) (pc rfl (pc rfl (pc rfl pn)))) hF
 ·have hS := hS.setb (t := 11) rfl hc
  refine st_val hS rfl rfl (by decide) (rv_move (hS.ev rfl)) fun a hS => ?_
  obtain ⟨x393, hx, hF⟩ := bind_some hF
  obtain ⟨hi0, hi1, hi2⟩ := idxL_some hx
  refine st_val hS rfl rfl (by decide) (rv_index Tryd.underlying9 (hS.ev rfl) (hS.ev rfl) hi0 hi2) fun a hS => ?_
  refine st_val hS rfl rfl (by decide) (rv_conv Tryd.underlying5 Tryd.underlying3 (hS.ev rfl)) fun a hS => ?_
  refine st_val hS rfl rfl (by decide) (rv_sub (hS.ev rfl) (hS.ev rfl)) fun a hS => ?_
  obtain ⟨r394, hr, hF⟩ := bind_some hF
  refine st_wp hS rfl (wp_call hS rfl rfl (by decide) fn_ok_61 rfl (c_impl_within F (i64.wrap ((i64.wrap (x393.toNat : Int)) - 48)) 1 7 hr _) fun v w a hK hS => ?_)
  obtain ⟨rfl, hN⟩ := hK
  have hM := hM.fra hN.fr
  refine st_val hS rfl rfl (by decide) (rv_not (hS.ev rfl)) fun a hS => ?_
  refine st_val hS rfl rfl (by decide) (rv_pick_f (hS.ev rfl) (hS.ev rfl)) fun a hS => ?_
  refine wpList_nil ?_
  exact hJ1 (!r394) _ _ (hS.sub (sub_cons rfl (sub_cons rfl (sub_cons rfl sub_nil)))) (hM.pk [1, 0, 2] (by decide) (pc rfl (pc rfl (pc rfl pn)))) hF


theorem c_spec_EdgesOf (F : Nat) (p0_g_Size : Int) (p0_g_Rows : List Int) (p0_g_Rowsv : Value) {r : (List (List Int))} (hF : S_spec_EdgesOf F p0_g_Size p0_g_Rows = some r) (w0 : World) (h0 : RdRow w0 p0_g_Rowsv (List.map (int i64) p0_g_Rows)) :
    Calls Tryd.prog 57 [(Value.agg #[(int i64 p0_g_Size), p0_g_Rowsv])].toArray w0 (retPost fun v w' => ∃ v418 hs419, v = v418 ∧ Mem Nob w0 w' [(true, mx 24 3 v418 hs419 (List.map (List.map (int i64)) r))]) := by
 have hM : Mem Nob w0 w0 [(false, rd p0_g_Rowsv (List.map (int i64) p0_g_Rows))] := (Mem.rcons (Mem.nil w0) h0 (by simp))
 refine enter2 Tryd.func57 rfl rfl rfl fun Q a hQr hQn hQp hS => ?_
 have hS : Sl 36 [(0, (Value.agg #[(int i64 p0_g_Size), p0_g_Rowsv]))] a := hS
 unfold S_spec_EdgesOf at hF
 refine wp_seq_k fun K1 hK1 => ?_
 refine wp_region_lit ?_
 obtain ⟨b3, w, hr, hM⟩ := hM.boxE (ρ := a.eval) (dst := some 1) (ty := _) (pos := _) (af := _) (gd := _) (x := .tmp 0) (T := 26) [(int i64 p0_g_Size), p0_g_Rowsv] (hS.ev rfl) rfl
 refine st_val hS rfl rfl (by decide) hr fun a hS => ?_
 refine st_val hS rfl rfl (by decide) (rv_assign (hS.ev rfl)) fun a hS => ?_
 refine wpList_nil ?_
 refine hK1 _ _ ?_
 refine wp_seq_k fun K4 hK4 => ?_
 refine wp_region_lit ?_
 obtain ⟨v6, w, hr, hM⟩ := Mem.mxLit0 (e2 := 3) (dst := some 6) (ty := _) (pos := _) (af := _) (gd := _) hM hS Tryd.underlying40 ty_el_24 rfl
 refine st_val hS rfl rfl (by decide) hr fun a hS => ?_
 refine st_val hS rfl rfl (by decide) (rv_assign (hS.ev rfl)) fun a hS => ?_
 refine wpList_nil ?_
 refine hK4 _ _ ?_
 refine wp_seq_k fun K7 hK7 => ?_
 have hJ1 : ∀ (l213 : List (List Int)) (v211 : Value) (hs212 : List Value) (a : Act) (w : World), Sl 36 [(3, v211)] a → Mem Nob w0 w [(true, mx 24 3 v211 hs212 (List.map (List.map (int i64)) l213))] → S_spec_EdgesOf_j1 F l213 = some r → K7 a w := by
  intro l213 v211 hs212 a w hS hM hF
  unfold S_spec_EdgesOf_j1 at hF
  refine hK7 _ _ ?_
  refine wp_seq_k fun K214 hK214 => ?_
  refine wp_region_lit ?_
  refine st_val hS rfl rfl (by decide) (rv_move (hS.ev rfl)) fun a hS => ?_
  refine st_val hS rfl rfl (by decide) (rv_assign (hS.ev rfl)) fun a hS => ?_
  refine wpList_nil ?_
  refine hK214 _ _ ?_
  refine wp_ret ?_
  cases hF
  exact hQr _ _ (r_1 hS rfl rfl ⟨v211, hs212, rfl, hM.pk [0] (by decide) (pc rfl pn)⟩)
 refine wp_seq_k fun K215 hK215 => ?_
 refine wp_region_lit ?_
 refine st_val hS rfl rfl (by decide) (rv_assign (hS.ev rfl)) fun a hS => ?_
 refine wpList_nil ?_
 refine hK215 _ _ ?_
 refine wp_block ?_
 obtain ⟨lb2, hl2, hF2⟩ := bind_some hF
 refine wp_loop_sh (fun s => S_spec_EdgesOf_l2 F p0_g_Size p0_g_Rows s.1 s.2) (fun s a w => ∃ (v216 : Value) (hs217 : List Value), Sl 36 [(1, (fdp b3 0)), (3, v216), (4, (int i64 s.2))] a ∧ Mem Nob w0 w [(true, bx b3 26 [(int i64 p0_g_Size), p0_g_Rowsv]), (false, rd p0_g_Rowsv (List.map (int i64) p0_g_Rows)), (true, mx 24 3 v216 hs217 (List.map (List.map (int i64)) s.1))]) hl2 ⟨v6, [], (hS.sub (sub_cons rfl (sub_cons rfl (sub_cons rfl sub_nil)))), (hM.pk [1, 2, 0] (by decide) (pc rfl (pc rfl (pc rfl pn))))⟩ ?_
 rintro K2 ⟨l218, x219⟩ a w res2 ⟨v216, hs217, hS, hM⟩ hF hN2 hX2
 have hF : S_spec_EdgesOf_l2 F p0_g_Size p0_g_Rows l218 x219 = some res2 := hF
 have hS : Sl 36 [(1, (fdp b3 0)), (3, v216), (4, (int i64 x219))] a := hS
 have hM : Mem Nob w0 w [(true, bx b3 26 [(int i64 p0_g_Size), p0_g_Rowsv]), (false, rd p0_g_Rowsv (List.map (int i64) p0_g_Rows)), (true, mx 24 3 v216 hs217 (List.map (List.map (int i64)) l218))] := hM
 unfold S_spec_EdgesOf_l2 at hF
 refine wp_seq_k fun K319 hK319 => ?_
 refine wp_seq_k fun K324 hK324 => ?_
 have hJ3 : ∀ (p326 : Bool) (a : Act) (w : World), Sl 36 [(1, (fdp b3 0)), (3, v216), (4, (int i64 x219)), (14, (Value.bool p326))] a → Mem Nob w0 w [(true, bx b3 26 [(int i64 p0_g_Size), p0_g_Rowsv]), (false, rd p0_g_Rowsv (List.map (int i64) p0_g_Rows)), (true, mx 24 3 v216 hs217 (List.map (List.map (int i64)) l218))] → S_spec_EdgesOf_j3 F p0_g_Size p0_g_Rows l218 x219 p326 = some res2 → K324 a w := by
  intro p326 a w hS hM hF
  unfold S_spec_EdgesOf_j3 at hF
  refine hK324 _ _ ?_
  rcases ite_some hF with ⟨hc, hF⟩ | ⟨hc, hF⟩
  ·refine cond_t hS rfl hc ?_
   refine wp_skip ?_
   refine hK319 _ _ ?_
   refine wp_seq_k fun K327 hK327 => ?_
   have hJ4 : ∀ (l373 : List (List Int)) (v371 : Value) (hs372 : List Value) (a : Act) (w : World), Sl 36 [(1, (fdp b3 0)), (3, v371), (4, (int i64 x219))] a → Mem Nob w0 w [(true, bx b3 26 [(int i64 p0_g_Size), p0_g_Rowsv]), (false, rd p0_g_Rowsv (List.map (int i64) p0_g_Rows)), (true, mx 24 3 v371 hs372 (List.map (List.map (int i64)) l373))] → S_spec_EdgesOf_j4 F x219 l373 = some res2 → K327 a w := by
    intro l373 v371 hs372 a w hS hM hF
    unfold S_spec_EdgesOf_j4 at hF
    refine hK327 _ _ ?_
    refine wp_region_lit ?_
    refine st_val hS rfl rfl (by decide) (rv_move (hS.ev rfl)) fun a hS => ?_
    refine st_val hS rfl rfl (by decide) (rv_add (hS.ev rfl) (hS.ev rfl)) fun a hS => ?_
    refine st_val hS rfl rfl (by decide) (rv_assign (hS.ev rfl)) fun a hS => ?_
    refine wpList_nil ?_
    cases hF
    exact hN2 _ _ _ rfl ⟨v371, hs372, (hS.sub (sub_cons rfl (sub_cons rfl (sub_cons rfl sub_nil)))), (hM.pk [0, 1, 2] (by decide) (pc rfl (pc rfl (pc rfl pn))))⟩
   refine wp_block ?_
   refine wp_seq_k fun K374 hK374 => ?_
   refine wp_region_lit ?_
   refine st_val hS rfl rfl (by decide) (rv_move (hS.ev rfl)) fun a hS => ?_
   refine st_val hS rfl rfl (by decide) (rv_add (hS.ev rfl) (hS.ev rfl)) fun a hS => ?_
   refine st_val hS rfl rfl (by decide) (rv_assign (hS.ev rfl)) fun a hS => ?_
   refine wpList_nil ?_
   refine hK374 _ _ ?_
   refine wp_block ?_
   obtain ⟨lb5, hl5, hF5⟩ := bind_some hF
   refine wp_loop_sh (fun s => S_spec_EdgesOf_l5 F p0_g_Size p0_g_Rows x219 s.1 s.2) (fun s a w => ∃ (v375 : Value) (hs376 : List Value), Sl 36 [(1, (fdp b3 0)), (3, v375), (4, (int i64 x219)), (5, (int i64 s.2))] a ∧ Mem Nob w0 w [(true, bx b3 26 [(int i64 p0_g_Size), p0_g_Rowsv]), (false, rd p0_g_Rowsv (List.map (int i64) p0_g_Rows)), (true, mx 24 3 v375 hs376 (List.map (List.map (int i64)) s.1))]) hl5 ⟨v216, hs217, (hS.sub (sub_cons rfl (sub_cons rfl (sub_cons rfl (sub_cons rfl sub_nil))))), (hM.pk [0, 1, 2] (by decide) (pc rfl (pc rfl (pc rfl pn))))⟩ ?_
   rintro K5 ⟨l377, x378⟩ a w res5 ⟨v375, hs376, hS, hM⟩ hF hN5 hX5
   have hF : S_spec_EdgesOf_l5 F p0_g_Size p0_g_Rows x219 l377 x378 = some res5 := hF
   have hS : Sl 36 [(1, (fdp b3 0)), (3, v375), (4, (int i64 x219)), (5, (int i64 x378))] a := hS
   have hM : Mem Nob w0 w [(true, bx b3 26 [(int i64 p0_g_Size), p0_g_Rowsv]), (false, rd p0_g_Rowsv (List.map (int i64) p0_g_Rows)), (true, mx 24 3 v375 hs376 (List.map (List.map (int i64)) l377))] := hM
   unfold S_spec_EdgesOf_l5 at hF
   refine wp_seq_k fun K398 hK398 => ?_
   refine wp_seq_k fun K400 hK400 => ?_
   refine wp_region_lit ?_
   refine st_val hS rfl rfl (by decide) (rv_move (hS.ev rfl)) fun a hS => ?_
   refine st_val hS rfl rfl (by decide) (rv_fieldAddr ty_fd_26_0 (hS.ev rfl)) fun a hS => ?_
   refine st_val hS rfl rfl (by decide) (rv_load_bx (hS.ev rfl) ty_ag_3 (hM.get 0 rfl) rfl) fun a hS => ?_
   refine st_val hS rfl rfl (by decide) (rv_lss (hS.ev rfl) (hS.ev rfl)) fun a hS => ?_
   refine wpList_nil ?_
   refine hK400 _ _ ?_
   rcases ite_some hF with ⟨hc, hF⟩ | ⟨hc, hF⟩
   ·refine cond_t hS rfl hc ?_
    refine wp_skip ?_
    refine hK398 _ _ ?_
    refine wp_seq_k fun K401 hK401 => ?_
    have hJ6 : ∀ (l410 : List (List Int)) (v408 : Value) (hs409 : List Value) (a : Act) (w : World), Sl 36 [(1, (fdp b3 0)), (3, v408), (4, (int i64 x219)), (5, (int i64 x378))] a → Mem Nob w0 w [(true, bx b3 26 [(int i64 p0_g_Size), p0_g_Rowsv]), (false, rd p0_g_Rowsv (List.map (int i64) p0_g_Rows)), (true, mx 24 3 v408 hs409 (List.map (List.map (int i64)) l410))] → S_spec_EdgesOf_j6 F x378 l410 = some res5 → K401 a w := by
     intro l410 v408 hs409 a w hS hM hF
     unfold S_spec_EdgesOf_j6 at hF
     refine hK401 _ _ ?_
     refine wp_region_lit ?_
     refine st_val hS rfl rfl (by decide) (rv_move (hS.ev rfl)) fun a hS => ?_
     refine st_val hS rfl rfl (by decide) (rv_add (hS.ev rfl) (hS.ev rfl)) fun a hS => ?_
     refine st_val hS rfl rfl (by decide) (rv_assign (hS.ev rfl)) fun a hS => ?_
     refine wpList_nil ?_
     cases hF
     exact hN5 _ _ _ rfl ⟨v408, hs409, (hS.sub (sub_cons rfl (sub_cons rfl (sub_cons rfl (sub_cons rfl sub_nil))))), (hM.pk [0, 1, 2] (by decide) (pc rfl (pc rfl (pc rfl pn))))⟩
    refine wp_block ?_
    refine wp_seq_k fun K411 hK411 => ?_
    refine wp_region_lit ?_
    refine st_val hS rfl rfl (by decide) (rv_load_agg (hS.ev rfl) ty_ag_26 (hM.get 0 rfl) ty_sz_26) fun a hS => ?_
    refine st_val hS rfl rfl (by decide) (rv_move (hS.ev rfl)) fun a hS => ?_
    refine st_val hS rfl rfl (by decide) (rv_move (hS.ev rfl)) fun a hS => ?_
    obtain ⟨r413, hr, hF⟩ := bind_some hF
    refine st_wp hS rfl (wp_call hS rfl rfl (by decide) fn_ok_69 rfl (c_spec_l2Edge F p0_g_Size p0_g_Rows x219 x378 p0_g_Rowsv hr _ (hM.get 1 rfl)) fun v w a hK hS => ?_)
    obtain ⟨rfl, hN⟩ := hK
    have hM := hM.fra hN.fr
    refine wpList_nil ?_
    refine hK411 _ _ ?_
    rcases ite_some hF with ⟨hc, hF⟩ | ⟨hc, hF⟩
    ·refine cond_t hS rfl hc ?_
     refine wp_region_lit ?_
     refine st_val hS rfl rfl (by decide) (rv_move (hS.ev rfl)) fun a hS => ?_
     refine st_val hS rfl rfl (by decide) (rv_move (hS.ev rfl)) fun a hS => ?_
     refine st_val hS rfl rfl (by decide) (rv_move (hS.ev rfl)) fun a hS => ?_
     obtain ⟨v414, w, hr, hM⟩ := Mem.litE (f := (int i64)) (dst := some 32) (ty := _) (pos := _) (af := _) (gd := _) (ps := [(0, .tmp 30), (1, .tmp 31)]) ([x219, x378] : List (Int)) i64_one hM hS Tryd.underlying24 ty_el_3 rfl rfl rfl rfl
     refine st_val hS rfl rfl (by decide) hr fun a hS => ?_
     obtain ⟨v415, w, hr, hM⟩ := Mem.mxLit1 (dst := some 33) (ty := _) (pos := _) (af := _) (gd := _) (x := .tmp 32) hM hS Tryd.underlying40 ty_el_24 rfl rfl
     refine st_val hS rfl rfl (by decide) hr fun a hS => ?_
     obtain ⟨_, hx, hF⟩ := bind_some hF
     have hM := hM.pk [3, 0, 1, 2] (by decide) (pc rfl (pc rfl (pc rfl (pc rfl pn))))
     obtain ⟨v416, w, hr, hM⟩ := Mem.mxApp (ρ := a.eval) (dst := some 34) (ty := _) (pos := _) (af := _) (gd := _) (x := .tmp 29) (y := .tmp 33) hM Tryd.underlying40 ty_el_24 rfl (by decide) (hS.ev rfl) (hS.ev rfl) (by simpa using catO_some hx)
     have hM : Mem Nob w0 w [(true, mx 24 3 v416 (hs376 ++ [v414]) (List.map (List.map (int i64)) (l377 ++ ([([x219, x378] : List (Int))] : List (List Int))))), (true, bx b3 26 [(int i64 p0_g_Size), p0_g_Rowsv]), (false, rd p0_g_Rowsv (List.map (int i64) p0_g_Rows))] := by rw [List.map_append]; exact hM
     refine st_val hS rfl rfl (by decide) hr fun a hS => ?_
     refine st_val hS rfl rfl (by decide) (rv_assign (hS.ev rfl)) fun a hS => ?_
     refine wpList_nil ?_
     exact hJ6 (l377 ++ ([([x219, x378] : List (Int))] : List (List Int))) v416 (hs376 ++ [v414]) _ _ (hS.sub (sub_cons rfl (sub_cons rfl (sub_cons rfl (sub_cons rfl sub_nil))))) (hM.pk [1, 2, 0] (by decide) (pc rfl (pc rfl (pc rfl pn)))) hF
    ·refine cond_f hS rfl hc ?_
     refine wp_skip ?_
     exact hJ6 l377 v375 hs376 _ _ (hS.sub (sub_cons rfl (sub_cons rfl (sub_cons rfl (sub_cons rfl sub_nil))))) (hM.pk [0, 1, 2] (by decide) (pc rfl (pc rfl (pc rfl pn)))) hF
   ·refine cond_f hS rfl hc ?_
    refine wp_exit ?_
    cases hF
    exact hJ4 l377 v375 hs376 _ _ (hS.sub (sub_cons rfl (sub_cons rfl (sub_cons rfl sub_nil)))) (hM.pk [0, 1, 2] (by decide) (pc rfl (pc rfl (pc rfl pn)))) (by have e := hX5 _ rfl; subst e; exact hF5)
  ·refine cond_f hS rfl hc ?_
   refine wp_exit ?_
   cases hF
   exact hJ1 l218 v216 hs217 _ _ (hS.sub (sub_cons rfl sub_nil)) (hM.pk [2] (by decide) (pc rfl pn)) (by have e := hX2 _ rfl; subst e; exact hF2)
 refine wp_region_lit ?_
 refine st_val hS rfl rfl (by decide) (rv_move (hS.ev rfl)) fun a hS => ?_
 refine st_val hS rfl rfl (by decide) (rv_fieldAddr ty_fd_26_0 (hS.ev rfl)) fun a hS => ?_
 refine st_val hS rfl rfl (by decide) (rv_load_bx (hS.ev rfl) ty_ag_3 (hM.get 0 rfl) rfl) fun a hS => ?_
 refine st_val hS rfl rfl (by decide) (rv_lss (hS.ev rfl) (hS.ev rfl)) fun a hS => ?_
 refine st_val hS rfl rfl (by decide) (rv_move (hS.ev rfl)) fun a hS => ?_
 rcases ite_some hF with ⟨hc, hF⟩ | ⟨hc, hF⟩
 ·have hS := hS.setb (t := 11) rfl hc
  refine st_val hS rfl rfl (by decide) (rv_load_agg (hS.ev rfl) ty_ag_26 (hM.get 0 rfl) ty_sz_26) fun a hS => ?_
  obtain ⟨r417, hr, hF⟩ := bind_some hF
  refine st_wp hS rfl (wp_call hS rfl rfl (by decide) fn_ok_39 rfl (c_spec_IsGraph F p0_g_Size p0_g_Rows p0_g_Rowsv hr _ (hM.get 1 rfl)) fun v w a hK hS => ?_)
  obtain ⟨rfl, hN⟩ := hK
  have hM := hM.fra hN.fr
  refine st_val hS rfl rfl (by decide) (rv_pick_t (hS.ev rfl) (hS.ev rfl)) fun a hS => ?_
  refine wpList_nil ?_
  exact hJ3 r417 _ _ (hS.sub (sub_cons rfl (sub_cons rfl (sub_cons rfl (sub_cons rfl sub_nil))))) (hM.pk [0, 1, 2] (by decide) (pc rfl (pc rfl (pc rfl pn)))) hF
 ·have hS := hS.setb (t := 11) rfl hc
  refine st_skip hS rfl rfl (by decide) fun a hS => ?_
  refine st_skip hS rfl rfl (by decide) fun a hS => ?_
  refine st_val hS rfl rfl (by decide) (rv_pick_f (hS.ev rfl) (hS.ev rfl)) fun a hS => ?_
  refine wpList_nil ?_
  exact hJ3 false _ _ (hS.sub (sub_cons rfl (sub_cons rfl (sub_cons rfl (sub_cons rfl sub_nil))))) (hM.pk [0, 1, 2] (by decide) (pc rfl (pc rfl (pc rfl pn)))) hF


theorem c_spec_FormatInt (F : Nat) (p0_n : Int) {r : (List UInt8)} (hF : S_spec_FormatInt F p0_n = some r) (w0 : World) :
    Calls Tryd.prog 66 [(int i64 p0_n)].toArray w0 (retPost fun v w' => v = (Value.string (bs r)) ∧ Mem Nob w0 w' []) := by
 have hM : Mem Nob w0 w0 [] := (Mem.nil w0)
 refine enter2 Tryd.func66 rfl rfl rfl fun Q a hQr hQn hQp hS => ?_
 have hS : Sl 31 [(0, (int i64 p0_n))] a := hS
 unfold S_spec_FormatInt at hF
 refine wp_seq_k fun K1 hK1 => ?_
 refine wp_region_lit ?_
 refine st_val hS rfl rfl (by decide) (rv_assign (hS.ev rfl)) fun a hS => ?_
 refine wpList_nil ?_
 refine hK1 _ _ ?_
 refine wp_seq_k fun K2 hK2 => ?_
 refine wp_seq_k fun K5 hK5 => ?_
 refine wp_region_lit ?_
 refine st_val hS rfl rfl (by decide) (rv_move (hS.ev rfl)) fun a hS => ?_
 refine st_val hS rfl rfl (by decide) (rv_eql (hS.ev rfl) (hS.ev rfl)) fun a hS => ?_
 refine wpList_nil ?_
 refine hK5 _ _ ?_
 rcases ite_some hF with ⟨hc, hF⟩ | ⟨hc, hF⟩
 ·refine cond_t hS rfl hc ?_
  refine wp_seq_k fun K6 hK6 => ?_
  refine wp_region_lit ?_
  refine st_val hS rfl rfl (by decide) (rv_assign (hS.ev rfl)) fun a hS => ?_
  refine wpList_nil ?_
  refine hK6 _ _ ?_
  refine wp_ret ?_
  cases hF
  exact hQr _ _ (r_1 hS rfl rfl ⟨rfl, hM.pk [] (by decide) pn⟩)
 ·refine cond_f hS rfl hc ?_
  refine wp_skip ?_
  refine hK2 _ _ ?_
  refine wp_seq_k fun K7 hK7 => ?_
  refine wp_region_lit ?_
  refine st_val hS rfl rfl (by decide) (rv_assign (hS.ev rfl)) fun a hS => ?_
  refine wpList_nil ?_
  refine hK7 _ _ ?_
  refine wp_seq_k fun K8 hK8 => ?_
  refine wp_region_lit ?_
  refine st_val hS rfl rfl (by decide) (rv_move (hS.ev rfl)) fun a hS => ?_
  refine st_val hS rfl rfl (by decide) (rv_lss (hS.ev rfl) (hS.ev rfl)) fun a hS => ?_
  refine st_val hS rfl rfl (by decide) (rv_assign (hS.ev rfl)) fun a hS => ?_
  refine wpList_nil ?_
  refine hK8 _ _ ?_
  refine wp_seq_k fun K9 hK9 => ?_
  have hJ1 : ∀ (s34 : List UInt8) (a : Act) (w : World), Sl 31 [(3, (Value.string (bs s34))), (4, (Value.bool (decide (p0_n < 0))))] a → Mem Nob w0 w [] → S_spec_FormatInt_j1 F p0_n s34 = some r → K9 a w := by
   intro s34 a w hS hM hF
   unfold S_spec_FormatInt_j1 at hF
   refine hK9 _ _ ?_
   refine wp_seq_k fun K35 hK35 => ?_
   refine wp_seq_k fun K38 hK38 => ?_
   refine wp_region_lit ?_
   refine st_val hS rfl rfl (by decide) (rv_move (hS.ev rfl)) fun a hS => ?_
   refine wpList_nil ?_
   refine hK38 _ _ ?_
   rcases ite_some hF with ⟨hc, hF⟩ | ⟨hc, hF⟩
   ·refine cond_t hS rfl hc ?_
    refine wp_seq_k fun K39 hK39 => ?_
    refine wp_region_lit ?_
    refine st_val hS rfl rfl (by decide) (rv_move (hS.ev rfl)) fun a hS => ?_
    obtain ⟨_, hx, hF⟩ := bind_some hF
    have hi0 := catO_some hx
    refine st_val hS rfl rfl (by decide) (rv_str_add (hS.ev rfl) (hS.ev rfl) hi0) fun a hS => ?_
    refine st_val hS rfl rfl (by decide) (rv_assign (hS.ev rfl)) fun a hS => ?_
    refine wpList_nil ?_
    refine hK39 _ _ ?_
    refine wp_ret ?_
    cases hF
    exact hQr _ _ (r_1 hS rfl rfl ⟨rfl, hM.pk [] (by decide) pn⟩)
   ·refine cond_f hS rfl hc ?_
    refine wp_skip ?_
    refine hK35 _ _ ?_
    refine wp_seq_k fun K40 hK40 => ?_
    refine wp_region_lit ?_
    refine st_val hS rfl rfl (by decide) (rv_move (hS.ev rfl)) fun a hS => ?_
    refine st_val hS rfl rfl (by decide) (rv_assign (hS.ev rfl)) fun a hS => ?_
    refine wpList_nil ?_
    refine hK40 _ _ ?_
    refine wp_ret ?_
    cases hF
    exact hQr _ _ (r_1 hS rfl rfl ⟨rfl, hM.pk [] (by decide) pn⟩)
  refine wp_block ?_
  obtain ⟨lb2, hl2, hF2⟩ := bind_some hF
  refine wp_loop_sh (fun s => S_spec_FormatInt_l2 F s.1 s.2) (fun s a w => Sl 31 [(0, (int i64 s.1)), (3, (Value.string (bs s.2))), (4, (Value.bool (decide (p0_n < 0))))] a ∧ Mem Nob w0 w []) hl2 ⟨(hS.sub (sub_cons rfl (sub_cons rfl (sub_cons rfl sub_nil)))), (hM.pk [] (by decide) pn)⟩ ?_
  rintro K2 ⟨x41, s42⟩ a w res2 ⟨hS, hM⟩ hF hN2 hX2
  have hF : S_spec_FormatInt_l2 F x41 s42 = some res2 := hF
  have hS : Sl 31 [(0, (int i64 x41)), (3, (Value.string (bs s42))), (4, (Value.bool (decide (p0_n < 0))))] a := hS
  have hM : Mem Nob w0 w [] := hM
  unfold S_spec_FormatInt_l2 at hF
  refine wp_seq_k fun K54 hK54 => ?_
  refine wp_seq_k fun K56 hK56 => ?_
  refine wp_region_lit ?_
  refine st_val hS rfl rfl (by decide) (rv_move (hS.ev rfl)) fun a hS => ?_
  refine st_val hS rfl rfl (by decide) (rv_neq (hS.ev rfl) (hS.ev rfl)) fun a hS => ?_
  refine wpList_nil ?_
  refine hK56 _ _ ?_
  rcases ite_some hF with ⟨hc, hF⟩ | ⟨hc, hF⟩
  ·refine cond_t hS rfl hc ?_
   refine wp_skip ?_
   refine hK54 _ _ ?_
   refine wp_block ?_
   refine wp_seq_k fun K57 hK57 => ?_
   refine wp_region_lit ?_
   refine st_val hS rfl rfl (by decide) (rv_move (hS.ev rfl)) fun a hS => ?_
   refine st_val hS rfl rfl (by decide) (rv_rem (hS.ev rfl) (hS.ev rfl) (by decide)) fun a hS => ?_
   refine st_val hS rfl rfl (by decide) (rv_assign (hS.ev rfl)) fun a hS => ?_
   refine wpList_nil ?_
   refine hK57 _ _ ?_
   refine wp_seq_k fun K58 hK58 => ?_
   have hJ3 : ∀ (x60 : Int) (a : Act) (w : World), Sl 31 [(0, (int i64 x41)), (3, (Value.string (bs s42))), (4, (Value.bool (decide (p0_n < 0)))), (5, (int i64 x60))] a → Mem Nob w0 w [] → S_spec_FormatInt_j3 F x41 s42 x60 = some res2 → K58 a w := by
    intro x60 a w hS hM hF
    unfold S_spec_FormatInt_j3 at hF
    refine hK58 _ _ ?_
    refine wp_seq_k fun K61 hK61 => ?_
    refine wp_region_lit ?_
    refine st_val hS rfl rfl (by decide) (rv_move (hS.ev rfl)) fun a hS => ?_
    refine st_val hS rfl rfl (by decide) (rv_add (hS.ev rfl) (hS.ev rfl)) fun a hS => ?_
    refine st_val hS rfl rfl (by decide) (rv_conv Tryd.underlying3 Tryd.underlying5 (hS.ev rfl)) fun a hS => ?_
    obtain ⟨v63, w, hr, hM⟩ := Mem.litE (f := (int IntKind.u8)) (dst := some 21) (ty := _) (pos := _) (af := _) (gd := _) (ps := [(0, .tmp 20)]) ([(IntKind.u8.wrap (i64.wrap (48 + x60)))] : List (Int)) u8_one hM hS Tryd.underlying22 ty_el_5 rfl rfl rfl rfl
    refine st_val hS rfl rfl (by decide) hr fun a hS => ?_
    refine st_val hS rfl rfl (by decide) (rv_bstr Tryd.underlying22 Tryd.underlying5 Tryd.underlying9 (hS.ev rfl) (rd_of_ow (hM.get 0 rfl))) fun a hS => ?_
    refine st_val hS rfl rfl (by decide) (rv_move (hS.ev rfl)) fun a hS => ?_
    obtain ⟨_, hx, hF⟩ := bind_some hF
    have hi0 := catO_some hx
    refine st_val hS rfl rfl (by decide) (rv_str_add (hS.ev rfl) (hS.ev rfl) hi0) fun a hS => ?_
    refine st_val hS rfl rfl (by decide) (rv_assign (hS.ev rfl)) fun a hS => ?_
    refine wpList_nil ?_
    refine hK61 _ _ ?_
    have hS : Sl 31 [(0, (int i64 x41)), (3, (Value.string (bs ((u8s ([(IntKind.u8.wrap (i64.wrap (48 + x60)))] : List (Int))) ++ s42)))), (4, (Value.bool (decide (p0_n < 0))))] a := hS.sub (sub_cons rfl (sub_cons rfl (sub_cons rfl sub_nil)))
    have hM := hM.pk [] (by decide) pn
    refine wp_region_lit ?_
    refine st_val hS rfl rfl (by decide) (rv_move (hS.ev rfl)) fun a hS => ?_
    refine st_val hS rfl rfl (by decide) (rv_quo (hS.ev rfl) (hS.ev rfl) (by decide)) fun a hS => ?_
    refine st_val hS rfl rfl (by decide) (rv_assign (hS.ev rfl)) fun a hS => ?_
    refine wpList_nil ?_
    cases hF
    exact hN2 _ _ _ rfl ⟨(hS.sub (sub_cons rfl (sub_cons rfl (sub_cons rfl sub_nil)))), (hM.pk [] (by decide) pn)⟩
   refine wp_seq_k fun K64 hK64 => ?_
   refine wp_region_lit ?_
   refine st_val hS rfl rfl (by decide) (rv_move (hS.ev rfl)) fun a hS => ?_
   refine st_val hS rfl rfl (by decide) (rv_lss (hS.ev rfl) (hS.ev rfl)) fun a hS => ?_
   refine wpList_nil ?_
   refine hK64 _ _ ?_
   rcases ite_some hF with ⟨hc, hF⟩ | ⟨hc, hF⟩
   ·refine cond_t hS rfl hc ?_
    refine wp_region_lit ?_
    refine st_val hS rfl rfl (by decide) (rv_move (hS.ev rfl)) fun a hS => ?_
    refine st_val hS rfl rfl (by decide) (rv_neg (hS.ev rfl)) fun a hS => ?_
    refine st_val hS rfl rfl (by decide) (rv_assign (hS.ev rfl)) fun a hS => ?_
    refine wpList_nil ?_
    exact hJ3 (i64.wrap (0 - (x41.tmod 10))) _ _ (hS.sub (sub_cons rfl (sub_cons rfl (sub_cons rfl (sub_cons rfl sub_nil))))) (hM.pk [] (by decide) pn) hF
   ·refine cond_f hS rfl hc ?_
    refine wp_skip ?_
    exact hJ3 (x41.tmod 10) _ _ (hS.sub (sub_cons rfl (sub_cons rfl (sub_cons rfl (sub_cons rfl sub_nil))))) (hM.pk [] (by decide) pn) hF
  ·refine cond_f hS rfl hc ?_
   refine wp_exit ?_
   cases hF
   exact hJ1 s42 _ _ (hS.sub (sub_cons rfl (sub_cons rfl sub_nil))) (hM.pk [] (by decide) pn) (by have e := hX2 _ rfl; subst e; exact hF2)


theorem c_spec_FormatGraph (F : Nat) (p0_g_Size : Int) (p0_g_Rows : List Int) (p0_g_Rowsv : Value) {r : (List UInt8)} (hF : S_spec_FormatGraph F p0_g_Size p0_g_Rows = some r) (w0 : World) (h0 : RdRow w0 p0_g_Rowsv (List.map (int i64) p0_g_Rows)) :
    Calls Tryd.prog 38 [(Value.agg #[(int i64 p0_g_Size), p0_g_Rowsv])].toArray w0 (retPost fun v w' => v = (Value.string (bs r)) ∧ Mem Nob w0 w' []) := by
 have hM : Mem Nob w0 w0 [(false, rd p0_g_Rowsv (List.map (int i64) p0_g_Rows))] := (Mem.rcons (Mem.nil w0) h0 (by simp))
 refine enter2 Tryd.func38 rfl rfl rfl fun Q a hQr hQn hQp hS => ?_
 have hS : Sl 40 [(0, (Value.agg #[(int i64 p0_g_Size), p0_g_Rowsv]))] a := hS
 unfold S_spec_FormatGraph at hF
 refine wp_seq_k fun K1 hK1 => ?_
 refine wp_region_lit ?_
 obtain ⟨b3, w, hr, hM⟩ := hM.boxE (ρ := a.eval) (dst := some 1) (ty := _) (pos := _) (af := _) (gd := _) (x := .tmp 0) (T := 26) [(int i64 p0_g_Size), p0_g_Rowsv] (hS.ev rfl) rfl
 refine st_val hS rfl rfl (by decide) hr fun a hS => ?_
 refine st_val hS rfl rfl (by decide) (rv_assign (hS.ev rfl)) fun a hS => ?_
 refine wpList_nil ?_
 refine hK1 _ _ ?_
 refine wp_seq_k fun K4 hK4 => ?_
 refine wp_seq_k fun K9 hK9 => ?_
 refine wp_region_lit ?_
 refine st_val hS rfl rfl (by decide) (rv_load_agg (hS.ev rfl) ty_ag_26 (hM.get 0 rfl) ty_sz_26) fun a hS => ?_
 obtain ⟨r11, hr, hF⟩ := bind_some hF
 refine st_wp hS rfl (wp_call hS rfl rfl (by decide) fn_ok_39 rfl (c_spec_IsGraph F p0_g_Size p0_g_Rows p0_g_Rowsv hr _ (hM.get 1 rfl)) fun v w a hK hS => ?_)
 obtain ⟨rfl, hN⟩ := hK
 have hM := hM.fra hN.fr
 refine st_val hS rfl rfl (by decide) (rv_not (hS.ev rfl)) fun a hS => ?_
 refine wpList_nil ?_
 refine hK9 _ _ ?_
 rcases ite_some hF with ⟨hc, hF⟩ | ⟨hc, hF⟩
 ·refine cond_t hS rfl hc ?_
  refine wp_seq_k fun K12 hK12 => ?_
  refine wp_region_lit ?_
  refine st_val hS rfl rfl (by decide) (rv_assign (hS.ev rfl)) fun a hS => ?_
  refine wpList_nil ?_
  refine hK12 _ _ ?_
  refine wp_ret ?_
  cases hF
  exact hQr _ _ (r_1 hS rfl rfl ⟨rfl, hM.pk [] (by decide) pn⟩)
 ·refine cond_f hS rfl hc ?_
  refine wp_skip ?_
  refine hK4 _ _ ?_
  refine wp_seq_k fun K13 hK13 => ?_
  refine wp_region_lit ?_
  refine st_val hS rfl rfl (by decide) (rv_fieldAddr ty_fd_26_0 (hS.ev rfl)) fun a hS => ?_
  refine st_val hS rfl rfl (by decide) (rv_load_bx (hS.ev rfl) ty_ag_3 (hM.get 0 rfl) rfl) fun a hS => ?_
  obtain ⟨r15, hr, hF⟩ := bind_some hF
  refine st_wp hS rfl (wp_call hS rfl rfl (by decide) fn_ok_66 rfl (c_spec_FormatInt F p0_g_Size hr _) fun v w a hK hS => ?_)
  obtain ⟨rfl, hN⟩ := hK
  have hM := hM.fra hN.fr
  obtain ⟨_, hx, hF⟩ := bind_some hF
  have hi0 := catO_some hx
  refine st_val hS rfl rfl (by decide) (rv_str_add (hS.ev rfl) (hS.ev rfl) hi0) fun a hS => ?_
  refine st_val hS rfl rfl (by decide) (rv_assign (hS.ev rfl)) fun a hS => ?_
  refine wpList_nil ?_
  refine hK13 _ _ ?_
  have hS : Sl 40 [(1, (fdp b3 0)), (3, (Value.string (bs (r15 ++ ([58] : List UInt8)))))] a := hS.sub (sub_cons rfl (sub_cons rfl sub_nil))
  refine wp_seq_k fun K16 hK16 => ?_
  refine wp_region_lit ?_
  refine st_val hS rfl rfl (by decide) (rv_load_agg (hS.ev rfl) ty_ag_26 (hM.get 0 rfl) ty_sz_26) fun a hS => ?_
  obtain ⟨r20, hr, hF⟩ := bind_some hF
  refine st_wp hS rfl (wp_call hS rfl rfl (by decide) fn_ok_57 rfl (c_spec_EdgesOf F p0_g_Size p0_g_Rows p0_g_Rowsv hr _ (hM.get 1 rfl)) fun v w a hK hS => ?_)
  obtain ⟨v21, hs22, hv0, hN⟩ := hK
  subst v
  have hM := hM.add hN rfl
  refine st_val hS rfl rfl (by decide) (rv_assign (hS.ev rfl)) fun a hS => ?_
  refine wpList_nil ?_
  refine hK16 _ _ ?_
  refine wp_seq_k fun K23 hK23 => ?_
  have hJ1 : ∀ (s67 : List UInt8) (a : Act) (w : World), Sl 40 [(3, (Value.string (bs s67)))] a → Mem Nob w0 w [] → S_spec_FormatGraph_j1 F s67 = some r → K23 a w := by
   intro s67 a w hS hM hF
   unfold S_spec_FormatGraph_j1 at hF
   refine hK23 _ _ ?_
   refine wp_seq_k fun K68 hK68 => ?_
   refine wp_region_lit ?_
   refine st_val hS rfl rfl (by decide) (rv_move (hS.ev rfl)) fun a hS => ?_
   refine st_val hS rfl rfl (by decide) (rv_assign (hS.ev rfl)) fun a hS => ?_
   refine wpList_nil ?_
   refine hK68 _ _ ?_
   refine wp_ret ?_
   cases hF
   exact hQr _ _ (r_1 hS rfl rfl ⟨rfl, hM.pk [] (by decide) pn⟩)
  refine wp_seq_k fun K69 hK69 => ?_
  refine wp_region_lit ?_
  refine st_val hS rfl rfl (by decide) (rv_assign (hS.ev rfl)) fun a hS => ?_
  refine wpList_nil ?_
  refine hK69 _ _ ?_
  refine wp_block ?_
  obtain ⟨lb2, hl2, hF2⟩ := bind_some hF
  refine wp_loop_sh (fun s => S_spec_FormatGraph_l2 F r20 s.1 s.2) (fun s a w => Sl 40 [(3, (Value.string (bs s.1))), (4, v21), (5, (int i64 s.2))] a ∧ Mem Nob w0 w [(true, mx 24 3 v21 hs22 (List.map (List.map (int i64)) r20))]) hl2 ⟨(hS.sub (sub_cons rfl (sub_cons rfl (sub_cons rfl sub_nil)))), (hM.pk [0] (by decide) (pc rfl pn))⟩ ?_
  rintro K2 ⟨s70, x71⟩ a w res2 ⟨hS, hM⟩ hF hN2 hX2
  have hF : S_spec_FormatGraph_l2 F r20 s70 x71 = some res2 := hF
  have hS : Sl 40 [(3, (Value.string (bs s70))), (4, v21), (5, (int i64 x71))] a := hS
  have hM : Mem Nob w0 w [(true, mx 24 3 v21 hs22 (List.map (List.map (int i64)) r20))] := hM
  unfold S_spec_FormatGraph_l2 at hF
  refine wp_seq_k fun K92 hK92 => ?_
  refine wp_seq_k fun K94 hK94 => ?_
  refine wp_region_lit ?_
  refine st_val hS rfl rfl (by decide) (rv_move (hS.ev rfl)) fun a hS => ?_
  refine st_val hS rfl rfl (by decide) (rv_move (hS.ev rfl)) fun a hS => ?_
  refine st_val hS rfl rfl (by decide) (rv_len_mxM Tryd.underlying40 (hS.ev rfl) (hM.get 0 rfl)) fun a hS => ?_
  refine st_val hS rfl rfl (by decide) (rv_lss (hS.ev rfl) (hS.ev rfl)) fun a hS => ?_
  refine wpList_nil ?_
  refine hK94 _ _ ?_
  rcases ite_some hF with ⟨hc, hF⟩ | ⟨hc, hF⟩
  ·refine cond_t hS rfl hc ?_
   refine wp_skip ?_
   refine hK92 _ _ ?_
   refine wp_seq_k fun K95 hK95 => ?_
   refine wp_block ?_
   refine an_startB 19 Nob ty_mixed (by kernel_rfl) fun w hf => ?_
   have hM := hM.fra hf
   have hB := hM
   have hM := hB.reg0
   try dsimp only [ro] at hM
   refine tkB hS 0 1 (by kernel_rfl) rfl rfl rfl hQp rfl (fun w' hC' => (rv_move (hS.ev rfl))) hM.fr fun a hS => ?_
   obtain ⟨_, hx, hF⟩ := bind_some hF
   have hi0 := catO_some hx
   refine tkB hS 1 3 (by kernel_rfl) rfl rfl rfl hQp rfl (fun w' hC' => (rv_str_add (hS.ev rfl) (hS.ev rfl) hi0)) hM.fr fun a hS => ?_
   refine tkB hS 2 7 (by kernel_rfl) rfl rfl rfl hQp rfl (fun w' hC' => (rv_move (hS.ev rfl))) hM.fr fun a hS => ?_
   refine tkB hS 3 15 (by kernel_rfl) rfl rfl rfl hQp rfl (fun w' hC' => (rv_move (hS.ev rfl))) hM.fr fun a hS => ?_
   obtain ⟨x104, hx, hF⟩ := bind_some hF
   obtain ⟨hi0, hi1, hex104⟩ := idxL_some hx
   refine tkB hS 4 31 (by kernel_rfl) rfl rfl rfl hQp rfl (fun w' hC' => (rv_indexAddr Tryd.underlying40 ty_el_24 (hS.ev rfl) (hS.ev rfl) (mx_rd (hM.get 0 rfl)) hi0 (mx_lt (hM.get 0 rfl) hi1))) hM.fr fun a hS => ?_
   obtain ⟨v105, hgx104⟩ := mx_get (hM.get 0 rfl) (mget hex104)
   refine tkB hS 5 63 (by kernel_rfl) rfl rfl rfl hQp rfl (fun w' hC' => (rv_load_el (hS.ev rfl) ty_ag_24 (mx_rd ((hB.fra hC').get 0 rfl)) hgx104)) hM.fr fun a hS => ?_
   obtain ⟨x106, hx, hF⟩ := bind_some hF
   obtain ⟨hi0, hi1, hex106⟩ := idxL_some hx
   refine tkB hS 6 127 (by kernel_rfl) rfl rfl rfl hQp rfl (fun w' hC' => (rv_indexAddr Tryd.underlying24 ty_el_3 (hS.ev rfl) (hS.ev rfl) (mx_row (hM.get 0 rfl) hgx104 (mget hex104)) hi0 (map_len hi1))) hM.fr fun a hS => ?_
   refine tkB hS 7 255 (by kernel_rfl) rfl rfl rfl hQp rfl (fun w' hC' => (rv_load_el (hS.ev rfl) ty_ag_3 (mx_row ((hB.fra hC').get 0 rfl) hgx104 (mget hex104)) (mget hex106))) hM.fr fun a hS => ?_
   refine tkB hS 10 1279 (by kernel_rfl) rfl rfl rfl hQp rfl (fun w' hC' => (rv_move (hS.ev rfl))) hM.fr fun a hS => ?_
   refine tkB hS 11 3327 (by kernel_rfl) rfl rfl rfl hQp rfl (fun w' hC' => (rv_move (hS.ev rfl))) hM.fr fun a hS => ?_
   obtain ⟨x107, hx, hF⟩ := bind_some hF
   obtain ⟨hi0, hi1, hex107⟩ := idxL_some hx
   refine tkB hS 12 7423 (by kernel_rfl) rfl rfl rfl hQp rfl (fun w' hC' => (rv_indexAddr Tryd.underlying40 ty_el_24 (hS.ev rfl) (hS.ev rfl) (mx_rd (hM.get 0 rfl)) hi0 (mx_lt (hM.get 0 rfl) hi1))) hM.fr fun a hS => ?_
   obtain ⟨v108, hgx107⟩ := mx_get (hM.get 0 rfl) (mget hex107)
   refine tkB hS 13 15615 (by kernel_rfl) rfl rfl rfl hQp rfl (fun w' hC' => (rv_load_el (hS.ev rfl) ty_ag_24 (mx_rd ((hB.fra hC').get 0 rfl)) hgx107)) hM.fr fun a hS => ?_
   obtain ⟨x109, hx, hF⟩ := bind_some hF
   obtain ⟨hi0, hi1, hex109⟩ := idxL_some hx
   refine tkB hS 14 31999 (by kernel_rfl) rfl rfl rfl hQp rfl (fun w' hC' => (rv_indexAddr Tryd.underlying24 ty_el_3 (hS.ev rfl) (hS.ev rfl) (mx_row (hM.get 0 rfl) hgx107 (mget hex107)) hi0 (map_len hi1))) hM.fr fun a hS => ?_
   refine tkB hS 15 64767 (by kernel_rfl) rfl rfl rfl hQp rfl (fun w' hC' => (rv_load_el (hS.ev rfl) ty_ag_3 (mx_row ((hB.fra hC').get 0 rfl) hgx107 (mget hex107)) (mget hex109))) hM.fr fun a hS => ?_
   obtain ⟨r110, hr, hF⟩ := bind_some hF
   refine an_oneB hS (i := 8) 65023 (by kernel_rfl) rfl (by kernel_rfl) rfl ?_
   refine wp_call hS rfl rfl (by decide) fn_ok_66 rfl (c_spec_FormatInt F x106 hr _) fun v w a hK hS => ?_
   obtain ⟨rfl, hN⟩ := hK
   have hM := hM.fra hN.fr
   refine ⟨hM.fr, ?_⟩
   obtain ⟨_, hx, hF⟩ := bind_some hF
   have hi0 := catO_some hx
   refine tkB hS 9 65535 (by kernel_rfl) rfl rfl rfl hQp rfl (fun w' hC' => (rv_str_add (hS.ev rfl) (hS.ev rfl) hi0)) hM.fr fun a hS => ?_
   obtain ⟨r111, hr, hF⟩ := bind_some hF
   refine an_oneB hS (i := 16) 131071 (by kernel_rfl) rfl (by kernel_rfl) rfl ?_
   refine wp_call hS rfl rfl (by decide) fn_ok_66 rfl (c_spec_FormatInt F x109 hr _) fun v w a hK hS => ?_
   obtain ⟨rfl, hN⟩ := hK
   have hM := hM.fra hN.fr
   refine ⟨hM.fr, ?_⟩
   obtain ⟨_, hx, hF⟩ := bind_some hF
   have hi0 := catO_some hx
   refine tkB hS 17 262143 (by kernel_rfl) rfl rfl rfl hQp rfl (fun w' hC' => (rv_str_add (hS.ev rfl) (hS.ev rfl) hi0)) hM.fr fun a hS => ?_
   refine tkB hS 18 524287 (by kernel_rfl) rfl rfl rfl hQp rfl (fun w' hC' => (rv_assign (hS.ev rfl))) hM.fr fun a hS => ?_
   refine an_done (by kernel_rfl) ?_
   have hN := hM.pk [] (by decide) pn
   have hM := Mem.callo0 hB hN rfl
   refine hK95 _ _ ?_
   have hS : Sl 40 [(3, (Value.string (bs (((s70 ++ ([32] : List UInt8)) ++ r110) ++ r111)))), (4, v21), (5, (int i64 x71))] a := hS.sub (sub_cons rfl (sub_cons rfl (sub_cons rfl sub_nil)))
   refine wp_region_lit ?_
   refine st_val hS rfl rfl (by decide) (rv_move (hS.ev rfl)) fun a hS => ?_
   refine st_val hS rfl rfl (by decide) (rv_add (hS.ev rfl) (hS.ev rfl)) fun a hS => ?_
   refine st_val hS rfl rfl (by decide) (rv_assign (hS.ev rfl)) fun a hS => ?_
   refine wpList_nil ?_
   cases hF
   exact hN2 _ _ _ rfl ⟨(hS.sub (sub_cons rfl (sub_cons rfl (sub_cons rfl sub_nil)))), (hM.pk [0] (by decide) (pc rfl pn))⟩
  ·refine cond_f hS rfl hc ?_
   refine wp_exit ?_
   cases hF
   exact hJ1 s70 _ _ (hS.sub (sub_cons rfl sub_nil)) (hM.pk [] (by decide) pn) (by have e := hX2 _ rfl; subst e; exact hF2)


end Go.Proofs.YtdalcpadcggklaaDoor
