/- Proved here: that each Go function does what its shallow function says -/
import Derived.Test.YtgddopammpjkgaaDoorSh
import Derived.Test.YtgddopammpjkgaaDoorTy
import Derived.Test.YtgddopammpjkgaaDoorK11
import Derived.Test.YtgddopammpjkgaaDoorKS
import Derived.Test.YtgddopammpjkgaaDoorW0
import Derived.Test.YtgddopammpjkgaaDoorW1
import Derived.Test.YtgddopammpjkgaaDoorW2
namespace Go.Proofs.YtgddopammpjkgaaDoor
open Go Go.RowKit
set_option linter.unusedVariables false
set_option linter.unusedSimpArgs false
set_option maxRecDepth 100000
set_option maxHeartbeats 4000000

theorem c_laws_toIntS (F : Nat) (p0_a : List Int) (p0_av : Value) {r : (List (Int))} (hF : S_laws_toIntS F p0_a = some r) (w0 : World) (h0 : RdRow w0 p0_av (List.map (Value.int IntKind.i64) p0_a)) :
    Calls Tryd.prog 51 [p0_av].toArray w0 (retPost fun v w' => Mem Nob w0 w' [(true, ow 3 v (List.map (Value.int IntKind.i64) r))]) := by
  have hM : Mem Nob w0 w0 [(false, rd p0_av (List.map (Value.int IntKind.i64) p0_a))] := (Mem.rcons (Mem.nil w0) h0 (by simp))
  refine enter2 Tryd.func51 rfl rfl rfl fun Q a hQr hQn hQp hS => ?_
  have hS : Sl 22 [(0, p0_av)] a := hS
  unfold S_laws_toIntS at hF
  refine wp_seq_k fun K1 hK1 => ?_
  refine wp_region_lit ?_
  refine st_val hS rfl rfl (by decide) (rv_assign (hS.ev rfl)) fun a hS => ?_
  refine wpList_nil ?_
  refine hK1 _ _ ?_
  refine wp_seq_k fun K2 hK2 => ?_
  refine wp_region_lit ?_
  refine st_val hS rfl rfl (by decide) (rv_move (hS.ev rfl)) fun a hS => ?_
  refine st_val hS rfl rfl (by decide) (rv_len_rowM Tryd.underlying38 (hS.ev rfl) (hM.get 0 rfl)) fun a hS => ?_
  obtain ⟨_, hx, hF⟩ := bind_some hF
  obtain ⟨v4, w, hr, hM⟩ := hM.makeE (f := (Value.int IntKind.i64)) (c := (0 : Int)) (ρ := a.eval) (dst := some 7) (ty := _) (pos := _) (af := _) (gd := _) (x := .tmp 6) (y := .tmp 6) Tryd.underlying38 ty_el_3 i64_one (by decide) (hS.ev rfl) (hS.ev rfl) (mkO_some hx)
  refine st_val hS rfl rfl (by decide) hr fun a hS => ?_
  refine st_val hS rfl rfl (by decide) (rv_assign (hS.ev rfl)) fun a hS => ?_
  refine wpList_nil ?_
  refine hK2 _ _ ?_
  refine wp_seq_k fun K5 hK5 => ?_
  have hJ1 : ∀ (l34 : List Int) (a : Act) (w : World), Sl 22 [(3, v4)] a → Mem Nob w0 w [(true, ow 3 v4 (List.map (Value.int IntKind.i64) l34))] → S_laws_toIntS_j1 F l34 = some r → K5 a w := by
    intro l34 a w hS hM hF
    unfold S_laws_toIntS_j1 at hF
    refine hK5 _ _ ?_
    refine wp_seq_k fun K35 hK35 => ?_
    refine wp_region_lit ?_
    refine st_val hS rfl rfl (by decide) (rv_move (hS.ev rfl)) fun a hS => ?_
    refine st_val hS rfl rfl (by decide) (rv_assign (hS.ev rfl)) fun a hS => ?_
    refine wpList_nil ?_
    refine hK35 _ _ ?_
    refine wp_ret ?_
    cases hF
    exact hQr _ _ (r_1 hS rfl rfl (hM.pick [0] (by decide) rfl))
  refine wp_seq_k fun K36 hK36 => ?_
  refine wp_region_lit ?_
  refine st_val hS rfl rfl (by decide) (rv_assign (hS.ev rfl)) fun a hS => ?_
  refine wpList_nil ?_
  refine hK36 _ _ ?_
  refine wp_block ?_
  obtain ⟨lb2, hl2, hF2⟩ := bind_some hF
  refine wp_loop_sh (fun s => S_laws_toIntS_l2 F p0_a s.1 s.2) (fun s a w => Sl 22 [(0, p0_av), (3, v4), (4, (Value.int IntKind.i64 s.2))] a ∧ Mem Nob w0 w [(false, rd p0_av (List.map (Value.int IntKind.i64) p0_a)), (true, ow 3 v4 (List.map (Value.int IntKind.i64) s.1))]) hl2 ⟨(hS.sub (sub_cons rfl (sub_cons rfl (sub_cons rfl sub_nil)))), (hM.pick [1, 0] (by decide) rfl)⟩ ?_
  rintro K2 ⟨l46, x47⟩ a w res2 ⟨hS, hM⟩ hF hN2 hX2
  have hF : S_laws_toIntS_l2 F p0_a l46 x47 = some res2 := hF
  have hS : Sl 22 [(0, p0_av), (3, v4), (4, (Value.int IntKind.i64 x47))] a := hS
  have hM : Mem Nob w0 w [(false, rd p0_av (List.map (Value.int IntKind.i64) p0_a)), (true, ow 3 v4 (List.map (Value.int IntKind.i64) l46))] := hM
  unfold S_laws_toIntS_l2 at hF
  refine wp_seq_k fun K56 hK56 => ?_
  refine wp_seq_k fun K58 hK58 => ?_
  refine wp_region_lit ?_
  refine st_val hS rfl rfl (by decide) (rv_move (hS.ev rfl)) fun a hS => ?_
  refine st_val hS rfl rfl (by decide) (rv_move (hS.ev rfl)) fun a hS => ?_
  refine st_val hS rfl rfl (by decide) (rv_len_rowM Tryd.underlying38 (hS.ev rfl) (hM.get 0 rfl)) fun a hS => ?_
  refine st_val hS rfl rfl (by decide) (rv_lss (hS.ev rfl) (hS.ev rfl)) fun a hS => ?_
  refine wpList_nil ?_
  refine hK58 _ _ ?_
  rcases ite_some hF with ⟨hc, hF⟩ | ⟨hc, hF⟩
  · refine cond_t hS rfl hc ?_
    refine wp_skip ?_
    refine hK56 _ _ ?_
    refine wp_seq_k fun K59 hK59 => ?_
    refine wp_block ?_
    refine wp_region_lit ?_
    refine st_val hS rfl rfl (by decide) (rv_move (hS.ev rfl)) fun a hS => ?_
    refine st_val hS rfl rfl (by decide) (rv_move (hS.ev rfl)) fun a hS => ?_
    refine st_val hS rfl rfl (by decide) (rv_move (hS.ev rfl)) fun a hS => ?_
    refine st_val hS rfl rfl (by decide) (rv_move (hS.ev rfl)) fun a hS => ?_
    obtain ⟨x62, hx, hF⟩ := bind_some hF
    obtain ⟨hi0, hi1, hex62⟩ := idxL_some hx
    refine st_val hS rfl rfl (by decide) (rv_indexAddr Tryd.underlying38 ty_el_3 (hS.ev rfl) (hS.ev rfl) (hM.get 0 rfl) hi0 (map_len hi1)) fun a hS => ?_
    refine st_val hS rfl rfl (by decide) (rv_load_el (hS.ev rfl) ty_ag_3 (hM.get 0 rfl) (mget hex62)) fun a hS => ?_
    obtain ⟨x63, hx, hF⟩ := bind_some hF
    obtain ⟨hi0, hi1, hex63⟩ := idxL_some hx
    refine st_val hS rfl rfl (by decide) (rv_indexAddr Tryd.underlying38 ty_el_3 (hS.ev rfl) (hS.ev rfl) (rd_of_ow (hM.get 1 rfl)) hi0 (map_len hi1)) fun a hS => ?_
    have hM := hM.pick [1, 0] (by decide) rfl
    obtain ⟨w, hr, hM⟩ := hM.st_el (f := (Value.int IntKind.i64)) (n := x47.toNat) (c := x62) (ρ := a.eval) (dst := none) (ty := _) (pos := _) (af := _) (gd := _) (x := .tmp 20) (y := .tmp 19) i64_one (hS.ev rfl) (hS.ev rfl) ty_sz_3 (List.getElem?_eq_some_iff.1 hex63).1
    refine st_unit hS rfl rfl hr ?_
    refine wpList_nil ?_
    refine hK59 _ _ ?_
    refine wp_region_lit ?_
    refine st_val hS rfl rfl (by decide) (rv_move (hS.ev rfl)) fun a hS => ?_
    refine st_val hS rfl rfl (by decide) (rv_add (hS.ev rfl) (hS.ev rfl)) fun a hS => ?_
    refine st_val hS rfl rfl (by decide) (rv_assign (hS.ev rfl)) fun a hS => ?_
    refine wpList_nil ?_
    cases hF
    exact hN2 _ _ _ rfl ⟨(hS.sub (sub_cons rfl (sub_cons rfl (sub_cons rfl sub_nil)))), (hM.pick [1, 0] (by decide) rfl)⟩
  · refine cond_f hS rfl hc ?_
    refine wp_exit ?_
    cases hF
    exact hJ1 l46 _ _ (hS.sub (sub_cons rfl sub_nil)) (hM.pick [1] (by decide) rfl) (by have e := hX2 _ rfl; subst e; exact hF2)


theorem c_laws_toGraph (F : Nat) (p0_a_Size : Int) (p0_a_Rows : List Int) (p0_a_Rowsv : Value) {r : Int × (List (Int))} (hF : S_laws_toGraph F p0_a_Size p0_a_Rows = some r) (w0 : World) (h0 : RdRow w0 p0_a_Rowsv (List.map (Value.int IntKind.i64) p0_a_Rows)) :
    Calls Tryd.prog 27 [(Value.agg #[(Value.int IntKind.i64 p0_a_Size), p0_a_Rowsv])].toArray w0 (retPost fun v w' => ∃ v16, v = (Value.agg #[(Value.int IntKind.i64 r.1), v16]) ∧ Mem Nob w0 w' [(true, ow 3 v16 (List.map (Value.int IntKind.i64) r.2))]) := by
  have hM : Mem Nob w0 w0 [(false, rd p0_a_Rowsv (List.map (Value.int IntKind.i64) p0_a_Rows))] := (Mem.rcons (Mem.nil w0) h0 (by simp))
  refine enter2 Tryd.func27 rfl rfl rfl fun Q a hQr hQn hQp hS => ?_
  have hS : Sl 12 [(0, (Value.agg #[(Value.int IntKind.i64 p0_a_Size), p0_a_Rowsv]))] a := hS
  unfold S_laws_toGraph at hF
  refine wp_seq_k fun K1 hK1 => ?_
  refine wp_region_lit ?_
  obtain ⟨b4, w, hr, hM⟩ := hM.boxE (ρ := a.eval) (dst := some 1) (ty := _) (pos := _) (af := _) (gd := _) (x := .tmp 0) (T := 40) [(Value.int IntKind.i64 p0_a_Size), p0_a_Rowsv] (hS.ev rfl) rfl
  refine st_val hS rfl rfl (by decide) hr fun a hS => ?_
  obtain ⟨b5, w, hr, hM⟩ := hM.allocE (ρ := a.eval) (dst := some 2) (ty := _) (pos := _) (af := _) (gd := _) (T := 43) (P := Tryd.prog) [(Value.int IntKind.i64 0), (Value.slice none 0 0)] ty_zr_43 rfl
  refine st_val hS rfl rfl (by decide) hr fun a hS => ?_
  have hM := hM.addNil 3
  refine wpList_nil ?_
  refine hK1 _ _ ?_
  refine wp_seq_k fun K6 hK6 => ?_
  refine wp_region_lit ?_
  obtain ⟨b8, w, hr, hM⟩ := hM.allocE (ρ := a.eval) (dst := some 3) (ty := _) (pos := _) (af := _) (gd := _) (T := 43) (P := Tryd.prog) [(Value.int IntKind.i64 0), (Value.slice none 0 0)] ty_zr_43 rfl
  refine st_val hS rfl rfl (by decide) hr fun a hS => ?_
  have hM := hM.addNil 3
  refine wpList_nil ?_
  refine hK6 _ _ ?_
  refine wp_seq_k fun K9 hK9 => ?_
  refine wp_region_lit ?_
  refine st_val hS rfl rfl (by decide) (rv_fieldAddr ty_fd_40_0 (hS.ev rfl)) fun a hS => ?_
  refine st_val hS rfl rfl (by decide) (rv_load_bx (hS.ev rfl) ty_ag_3 (hM.get 4 rfl) rfl) fun a hS => ?_
  refine st_val hS rfl rfl (by decide) (rv_fieldAddr ty_fd_43_0 (hS.ev rfl)) fun a hS => ?_
  have hM := hM.pick [1, 0, 2, 3, 4, 5] (by decide) rfl
  obtain ⟨w, hr, hM⟩ := hM.st_bx1 (n := 0) (cs' := [(Value.int IntKind.i64 p0_a_Size), (Value.slice none 0 0)]) (ρ := a.eval) (dst := none) (ty := _) (pos := _) (af := _) (gd := _) (x := .tmp 6) (y := .tmp 5) (hS.ev rfl) (hS.ev rfl) ty_sz_3 rfl rfl rfl
  refine st_unit hS rfl rfl hr ?_
  refine wpList_nil ?_
  refine hK9 _ _ ?_
  refine wp_seq_k fun K10 hK10 => ?_
  refine wp_region_lit ?_
  refine st_val hS rfl rfl (by decide) (rv_fieldAddr ty_fd_40_1 (hS.ev rfl)) fun a hS => ?_
  refine st_val hS rfl rfl (by decide) (rv_load_bx (hS.ev rfl) ty_ag_38 (hM.get 4 rfl) rfl) fun a hS => ?_
  obtain ⟨r13, hr, hF⟩ := bind_some hF
  refine st_wp hS rfl (wp_call hS rfl rfl (by decide) fn_ok_51 rfl (c_laws_toIntS F p0_a_Rows p0_a_Rowsv hr _ (hM.get 5 rfl)) fun v14 w a hK hS => ?_)
  have hN := hK
  have hM := hM.add hN rfl
  refine st_val hS rfl rfl (by decide) (rv_fieldAddr ty_fd_43_1 (hS.ev rfl)) fun a hS => ?_
  have hM := hM.pick [1, 0, 2, 3, 4, 5, 6] (by decide) rfl
  obtain ⟨w, hr, hM⟩ := hM.st_bx1 (n := 1) (cs' := [(Value.int IntKind.i64 p0_a_Size), v14]) (ρ := a.eval) (dst := none) (ty := _) (pos := _) (af := _) (gd := _) (x := .tmp 10) (y := .tmp 9) (hS.ev rfl) (hS.ev rfl) ty_sz_38 (rd_one (rd_of_ow (hM.get 1 rfl))) rfl rfl
  refine st_unit hS rfl rfl hr ?_
  refine wpList_nil ?_
  refine hK10 _ _ ?_
  refine wp_seq_k fun K15 hK15 => ?_
  refine wp_region_lit ?_
  refine st_val hS rfl rfl (by decide) (rv_load_agg (hS.ev rfl) ty_ag_43 (hM.get 0 rfl) ty_sz_43) fun a hS => ?_
  have hM := hM.pick [4, 0, 1, 2, 3, 5, 6] (by decide) rfl
  obtain ⟨w, hr, hM⟩ := hM.st_agg (us := [(Value.int IntKind.i64 p0_a_Size), v14]) (ρ := a.eval) (dst := none) (ty := _) (pos := _) (af := _) (gd := _) (x := .tmp 2) (y := .tmp 11) (hS.ev rfl) (hS.ev rfl) ty_sz_43 (all1_cons rfl (all1_cons (rd_one (rd_of_ow (hM.get 2 rfl))) all1_nil)) rfl
  refine st_unit hS rfl rfl hr ?_
  refine wpList_nil ?_
  refine hK15 _ _ ?_
  refine wp_ret ?_
  cases hF
  exact hQr _ _ (r_c hS rfl ⟨_, rfl, run_loadAgg ty_ag_43 (hM.get 0 rfl) ty_sz_43⟩ ⟨v14, rfl, hM.pick [2] (by decide) rfl⟩)


theorem c_impl_IsGraph (F : Nat) (p0_g_Size : Int) (p0_g_Rows : List Int) (p0_g_Rowsv : Value) {r : Bool} (hF : S_impl_IsGraph F p0_g_Size p0_g_Rows = some r) (w0 : World) (h0 : RdRow w0 p0_g_Rowsv (List.map (Value.int IntKind.i64) p0_g_Rows)) :
    Calls Tryd.prog 52 [(Value.agg #[(Value.int IntKind.i64 p0_g_Size), p0_g_Rowsv])].toArray w0 (retPost fun v w' => v = (Value.bool r) ∧ Mem Nob w0 w' []) := by
  have hM : Mem Nob w0 w0 [(false, rd p0_g_Rowsv (List.map (Value.int IntKind.i64) p0_g_Rows))] := (Mem.rcons (Mem.nil w0) h0 (by simp))
  refine enter2 Tryd.func52 rfl rfl rfl fun Q a hQr hQn hQp hS => ?_
  have hS : Sl 66 [(0, (Value.agg #[(Value.int IntKind.i64 p0_g_Size), p0_g_Rowsv]))] a := hS
  unfold S_impl_IsGraph at hF
  refine wp_seq_k fun K1 hK1 => ?_
  refine wp_region_lit ?_
  obtain ⟨b3, w, hr, hM⟩ := hM.boxE (ρ := a.eval) (dst := some 1) (ty := _) (pos := _) (af := _) (gd := _) (x := .tmp 0) (T := 43) [(Value.int IntKind.i64 p0_g_Size), p0_g_Rowsv] (hS.ev rfl) rfl
  refine st_val hS rfl rfl (by decide) hr fun a hS => ?_
  refine st_val hS rfl rfl (by decide) (rv_assign (hS.ev rfl)) fun a hS => ?_
  refine wpList_nil ?_
  refine hK1 _ _ ?_
  refine wp_seq_k fun K4 hK4 => ?_
  refine wp_seq_k fun K10 hK10 => ?_
  have hJ1 : ∀ (p12 : Bool) (a : Act) (w : World), Sl 66 [(1, (fdp b3 0)), (19, (Value.bool p12))] a → Mem Nob w0 w [(true, bx b3 43 [(Value.int IntKind.i64 p0_g_Size), p0_g_Rowsv]), (false, rd p0_g_Rowsv (List.map (Value.int IntKind.i64) p0_g_Rows))] → S_impl_IsGraph_j1 F p0_g_Size p0_g_Rows p12 = some r → K10 a w := by
    intro p12 a w hS hM hF
    unfold S_impl_IsGraph_j1 at hF
    refine hK10 _ _ ?_
    rcases ite_some hF with ⟨hc, hF⟩ | ⟨hc, hF⟩
    · refine cond_t hS rfl hc ?_
      refine wp_seq_k fun K13 hK13 => ?_
      refine wp_region_lit ?_
      refine st_val hS rfl rfl (by decide) (rv_assign (hS.ev rfl)) fun a hS => ?_
      refine wpList_nil ?_
      refine hK13 _ _ ?_
      refine wp_ret ?_
      cases hF
      exact hQr _ _ (r_1 hS rfl rfl ⟨rfl, hM.pick [] (by decide) rfl⟩)
    · refine cond_f hS rfl hc ?_
      refine wp_skip ?_
      refine hK4 _ _ ?_
      refine wp_seq_k fun K14 hK14 => ?_
      have hJ2 : ∀ (a : Act) (w : World), Sl 66 [(1, (fdp b3 0))] a → Mem Nob w0 w [(true, bx b3 43 [(Value.int IntKind.i64 p0_g_Size), p0_g_Rowsv]), (false, rd p0_g_Rowsv (List.map (Value.int IntKind.i64) p0_g_Rows))] → S_impl_IsGraph_j2 F p0_g_Rows = some r → K14 a w := by
        intro a w hS hM hF
        unfold S_impl_IsGraph_j2 at hF
        refine hK14 _ _ ?_
        refine wp_seq_k fun K63 hK63 => ?_
        have hJ3 : ∀ (a : Act) (w : World), Sl 66 [] a → Mem Nob w0 w [] → S_impl_IsGraph_j3 F = some r → K63 a w := by
          intro a w hS hM hF
          unfold S_impl_IsGraph_j3 at hF
          refine hK63 _ _ ?_
          refine wp_seq_k fun K260 hK260 => ?_
          refine wp_region_lit ?_
          refine st_val hS rfl rfl (by decide) (rv_assign (hS.ev rfl)) fun a hS => ?_
          refine wpList_nil ?_
          refine hK260 _ _ ?_
          refine wp_ret ?_
          cases hF
          exact hQr _ _ (r_1 hS rfl rfl ⟨rfl, hM.pick [] (by decide) rfl⟩)
        refine wp_seq_k fun K261 hK261 => ?_
        refine wp_region_lit ?_
        refine st_val hS rfl rfl (by decide) (rv_fieldAddr ty_fd_43_1 (hS.ev rfl)) fun a hS => ?_
        refine st_val hS rfl rfl (by decide) (rv_load_bx (hS.ev rfl) ty_ag_38 (hM.get 0 rfl) rfl) fun a hS => ?_
        refine st_val hS rfl rfl (by decide) (rv_len_rowM Tryd.underlying38 (hS.ev rfl) (hM.get 1 rfl)) fun a hS => ?_
        refine st_val hS rfl rfl (by decide) (rv_move (hS.ev rfl)) fun a hS => ?_
        refine wpList_nil ?_
        refine hK261 _ _ ?_
        refine wp_block ?_
        obtain ⟨lb4, hl4, hF4⟩ := bind_some hF
        refine wp_loop_sh (fun s => S_impl_IsGraph_l4 F p0_g_Rows s) (fun s a w => Sl 66 [(1, (fdp b3 0)), (42, p0_g_Rowsv), (43, (Value.int IntKind.i64 (p0_g_Rows.length : Int))), (44, (Value.int IntKind.i64 s))] a ∧ Mem Nob w0 w [(true, bx b3 43 [(Value.int IntKind.i64 p0_g_Size), p0_g_Rowsv]), (false, rd p0_g_Rowsv (List.map (Value.int IntKind.i64) p0_g_Rows))]) hl4 ⟨(hS.sub (sub_cons rfl (sub_cons rfl (sub_cons rfl (sub_cons rfl sub_nil))))), (hM.pick [0, 1] (by decide) rfl)⟩ ?_
        rintro K4 x262 a w res4 ⟨hS, hM⟩ hF hN4 hX4
        have hF : S_impl_IsGraph_l4 F p0_g_Rows x262 = some res4 := hF
        have hS : Sl 66 [(1, (fdp b3 0)), (42, p0_g_Rowsv), (43, (Value.int IntKind.i64 (p0_g_Rows.length : Int))), (44, (Value.int IntKind.i64 x262))] a := hS
        have hM : Mem Nob w0 w [(true, bx b3 43 [(Value.int IntKind.i64 p0_g_Size), p0_g_Rowsv]), (false, rd p0_g_Rowsv (List.map (Value.int IntKind.i64) p0_g_Rows))] := hM
        unfold S_impl_IsGraph_l4 at hF
        refine wp_seq_k fun K360 hK360 => ?_
        refine wp_region_lit ?_
        refine st_val hS rfl rfl (by decide) (rv_lss (hS.ev rfl) (hS.ev rfl)) fun a hS => ?_
        refine wpList_nil ?_
        refine hK360 _ _ ?_
        refine wp_seq_k fun K361 hK361 => ?_
        rcases ite_some hF with ⟨hc, hF⟩ | ⟨hc, hF⟩
        · refine cond_t hS rfl hc ?_
          refine wp_skip ?_
          refine hK361 _ _ ?_
          refine wp_seq_k fun K362 hK362 => ?_
          have hJ5 : ∀ (a : Act) (w : World), Sl 66 [(1, (fdp b3 0)), (42, p0_g_Rowsv), (43, (Value.int IntKind.i64 (p0_g_Rows.length : Int))), (44, (Value.int IntKind.i64 x262))] a → Mem Nob w0 w [(true, bx b3 43 [(Value.int IntKind.i64 p0_g_Size), p0_g_Rowsv]), (false, rd p0_g_Rowsv (List.map (Value.int IntKind.i64) p0_g_Rows))] → S_impl_IsGraph_j5 F x262 = some res4 → K362 a w := by
            intro a w hS hM hF
            unfold S_impl_IsGraph_j5 at hF
            refine hK362 _ _ ?_
            refine wp_region_lit ?_
            refine st_val hS rfl rfl (by decide) (rv_add (hS.ev rfl) (hS.ev rfl)) fun a hS => ?_
            refine st_val hS rfl rfl (by decide) (rv_move (hS.ev rfl)) fun a hS => ?_
            refine wpList_nil ?_
            cases hF
            exact hN4 _ _ _ rfl ⟨(hS.sub (sub_cons rfl (sub_cons rfl (sub_cons rfl (sub_cons rfl sub_nil))))), (hM.pick [0, 1] (by decide) rfl)⟩
          refine wp_block ?_
          refine wp_seq_k fun K410 hK410 => ?_
          refine wp_region_lit ?_
          refine st_val hS rfl rfl (by decide) (rv_move (hS.ev rfl)) fun a hS => ?_
          obtain ⟨x412, hx, hF⟩ := bind_some hF
          obtain ⟨hi0, hi1, hex412⟩ := idxL_some hx
          refine st_val hS rfl rfl (by decide) (rv_indexAddr Tryd.underlying38 ty_el_3 (hS.ev rfl) (hS.ev rfl) (hM.get 1 rfl) hi0 (map_len hi1)) fun a hS => ?_
          refine st_val hS rfl rfl (by decide) (rv_load_el (hS.ev rfl) ty_ag_3 (hM.get 1 rfl) (mget hex412)) fun a hS => ?_
          refine st_val hS rfl rfl (by decide) (rv_assign (hS.ev rfl)) fun a hS => ?_
          refine st_val hS rfl rfl (by decide) (rv_assign (hS.ev rfl)) fun a hS => ?_
          refine wpList_nil ?_
          refine hK410 _ _ ?_
          refine wp_seq_k fun K413 hK413 => ?_
          refine wp_region_lit ?_
          refine st_val hS rfl rfl (by decide) (rv_move (hS.ev rfl)) fun a hS => ?_
          refine st_val hS rfl rfl (by decide) (rv_move (hS.ev rfl)) fun a hS => ?_
          refine wpList_nil ?_
          refine hK413 _ _ ?_
          refine wp_block ?_
          obtain ⟨lb6, hl6, hF6⟩ := bind_some hF
          refine wp_loop_sh (fun s => S_impl_IsGraph_l6 F p0_g_Rows x262 x412 s) (fun s a w => Sl 66 [(1, (fdp b3 0)), (5, (Value.int IntKind.i64 x262)), (6, (Value.int IntKind.i64 x412)), (42, p0_g_Rowsv), (43, (Value.int IntKind.i64 (p0_g_Rows.length : Int))), (44, (Value.int IntKind.i64 x262)), (49, (Value.int IntKind.i64 x262)), (50, (Value.int IntKind.i64 s))] a ∧ Mem Nob w0 w [(true, bx b3 43 [(Value.int IntKind.i64 p0_g_Size), p0_g_Rowsv]), (false, rd p0_g_Rowsv (List.map (Value.int IntKind.i64) p0_g_Rows))]) hl6 ⟨(hS.sub (sub_cons rfl (sub_cons rfl (sub_cons rfl (sub_cons rfl (sub_cons rfl (sub_cons rfl (sub_cons rfl (sub_cons rfl sub_nil))))))))), (hM.pick [0, 1] (by decide) rfl)⟩ ?_
          rintro K6 x414 a w res6 ⟨hS, hM⟩ hF hN6 hX6
          have hF : S_impl_IsGraph_l6 F p0_g_Rows x262 x412 x414 = some res6 := hF
          have hS : Sl 66 [(1, (fdp b3 0)), (5, (Value.int IntKind.i64 x262)), (6, (Value.int IntKind.i64 x412)), (42, p0_g_Rowsv), (43, (Value.int IntKind.i64 (p0_g_Rows.length : Int))), (44, (Value.int IntKind.i64 x262)), (49, (Value.int IntKind.i64 x262)), (50, (Value.int IntKind.i64 x414))] a := hS
          have hM : Mem Nob w0 w [(true, bx b3 43 [(Value.int IntKind.i64 p0_g_Size), p0_g_Rowsv]), (false, rd p0_g_Rowsv (List.map (Value.int IntKind.i64) p0_g_Rows))] := hM
          unfold S_impl_IsGraph_l6 at hF
          refine wp_seq_k fun K436 hK436 => ?_
          refine wp_region_lit ?_
          refine st_val hS rfl rfl (by decide) (rv_lss (hS.ev rfl) (hS.ev rfl)) fun a hS => ?_
          refine wpList_nil ?_
          refine hK436 _ _ ?_
          refine wp_seq_k fun K437 hK437 => ?_
          rcases ite_some hF with ⟨hc, hF⟩ | ⟨hc, hF⟩
          · refine cond_t hS rfl hc ?_
            refine wp_skip ?_
            refine hK437 _ _ ?_
            refine wp_seq_k fun K438 hK438 => ?_
            refine wp_block ?_
            refine wp_seq_k fun K448 hK448 => ?_
            refine wp_region_lit ?_
            refine st_val hS rfl rfl (by decide) (rv_move (hS.ev rfl)) fun a hS => ?_
            refine st_val hS rfl rfl (by decide) (rv_assign (hS.ev rfl)) fun a hS => ?_
            refine wpList_nil ?_
            refine hK448 _ _ ?_
            refine wp_seq_k fun K449 hK449 => ?_
            refine an_start Nob ty_mixed fun w hf => ?_
            have hM := hM.fra hf
            have hB := hM
            have hM := hB.reg0
            refine an_take hS (i := 0) rfl (by kernel_rfl) (by kernel_rfl) (by kernel_rfl) rfl (by decide) (fun c a a' w hd h => hQp c a a' w hd h) rfl (fun w' hC' => (rv_move (hS.ev rfl))) hM.fr fun a hS => ?_
            refine an_take hS (i := 1) rfl (by kernel_rfl) (by kernel_rfl) (by kernel_rfl) rfl (by decide) (fun c a a' w hd h => hQp c a a' w hd h) rfl (fun w' hC' => (rv_move (hS.ev rfl))) hM.fr fun a hS => ?_
            refine an_take hS (i := 3) rfl (by kernel_rfl) (by kernel_rfl) (by kernel_rfl) rfl (by decide) (fun c a a' w hd h => hQp c a a' w hd h) rfl (fun w' hC' => (rv_fieldAddr ty_fd_43_1 (hS.ev rfl))) hM.fr fun a hS => ?_
            refine an_take hS (i := 4) rfl (by kernel_rfl) (by kernel_rfl) (by kernel_rfl) rfl (by decide) (fun c a a' w hd h => hQp c a a' w hd h) rfl (fun w' hC' => (rv_load_bx (hS.ev rfl) ty_ag_38 ((hB.fra hC').get 0 rfl) rfl)) hM.fr fun a hS => ?_
            refine an_take hS (i := 5) rfl (by kernel_rfl) (by kernel_rfl) (by kernel_rfl) rfl (by decide) (fun c a a' w hd h => hQp c a a' w hd h) rfl (fun w' hC' => (rv_move (hS.ev rfl))) hM.fr fun a hS => ?_
            obtain ⟨x453, hx, hF⟩ := bind_some hF
            obtain ⟨hi0, hi1, hex453⟩ := idxL_some hx
            refine an_take hS (i := 6) rfl (by kernel_rfl) (by kernel_rfl) (by kernel_rfl) rfl (by decide) (fun c a a' w hd h => hQp c a a' w hd h) rfl (fun w' hC' => (rv_indexAddr Tryd.underlying38 ty_el_3 (hS.ev rfl) (hS.ev rfl) (hM.get 1 rfl) hi0 (map_len hi1))) hM.fr fun a hS => ?_
            refine an_take hS (i := 7) rfl (by kernel_rfl) (by kernel_rfl) (by kernel_rfl) rfl (by decide) (fun c a a' w hd h => hQp c a a' w hd h) rfl (fun w' hC' => (rv_load_el (hS.ev rfl) ty_ag_3 ((hB.fra hC').get 1 rfl) (mget hex453))) hM.fr fun a hS => ?_
            refine an_take hS (i := 8) rfl (by kernel_rfl) (by kernel_rfl) (by kernel_rfl) rfl (by decide) (fun c a a' w hd h => hQp c a a' w hd h) rfl (fun w' hC' => (rv_move (hS.ev rfl))) hM.fr fun a hS => ?_
            obtain ⟨r454, hr, hF⟩ := bind_some hF
            refine an_one hS (i := 2) rfl (by kernel_rfl) rfl ?_
            refine wp_call hS rfl rfl (by decide) fn_ok_64 rfl (c_impl_has F x412 x414 hr _) fun v w a hK hS => ?_
            obtain ⟨rfl, hN⟩ := hK
            have hM := hM.fra hN.fr
            refine ⟨hM.fr, ?_⟩
            obtain ⟨r455, hr, hF⟩ := bind_some hF
            refine an_one hS (i := 9) rfl (by kernel_rfl) rfl ?_
            refine wp_call hS rfl rfl (by decide) fn_ok_64 rfl (c_impl_has F x453 x262 hr _) fun v w a hK hS => ?_
            obtain ⟨rfl, hN⟩ := hK
            have hM := hM.fra hN.fr
            refine ⟨hM.fr, ?_⟩
            refine an_take hS (i := 10) rfl (by kernel_rfl) (by kernel_rfl) (by kernel_rfl) rfl (by decide) (fun c a a' w hd h => hQp c a a' w hd h) rfl (fun w' hC' => (rv_bneq Tryd.underlying4 (hS.ev rfl) (hS.ev rfl))) hM.fr fun a hS => ?_
            refine an_done (by kernel_rfl) ?_
            have hN := hM.pick [] (by decide) rfl
            have hM := Mem.callo (A := []) (B := [(true, bx b3 43 [(Value.int IntKind.i64 p0_g_Size), p0_g_Rowsv]), (false, rd p0_g_Rowsv (List.map (Value.int IntKind.i64) p0_g_Rows))]) hB rfl (hN.memS fun _ h => h.elim) rfl
            refine hK449 _ _ ?_
            rcases ite_some hF with ⟨hc, hF⟩ | ⟨hc, hF⟩
            · refine cond_t hS rfl hc ?_
              refine wp_seq_k fun K456 hK456 => ?_
              refine wp_region_lit ?_
              refine st_val hS rfl rfl (by decide) (rv_assign (hS.ev rfl)) fun a hS => ?_
              refine wpList_nil ?_
              refine hK456 _ _ ?_
              refine wp_ret ?_
              cases hF
              have e := hX6 _ rfl
              subst e
              have hF := hF6
              cases hF
              have e := hX4 _ rfl
              subst e
              have hF := hF4
              cases hF
              exact hQr _ _ (r_1 hS rfl rfl ⟨rfl, hM.pick [] (by decide) rfl⟩)
            · refine cond_f hS rfl hc ?_
              refine wp_skip ?_
              refine hK438 _ _ ?_
              refine wp_region_lit ?_
              refine st_val hS rfl rfl (by decide) (rv_add (hS.ev rfl) (hS.ev rfl)) fun a hS => ?_
              refine st_val hS rfl rfl (by decide) (rv_move (hS.ev rfl)) fun a hS => ?_
              refine wpList_nil ?_
              cases hF
              exact hN6 _ _ _ rfl ⟨(hS.sub (sub_cons rfl (sub_cons rfl (sub_cons rfl (sub_cons rfl (sub_cons rfl (sub_cons rfl (sub_cons rfl (sub_cons rfl sub_nil))))))))), (hM.pick [0, 1] (by decide) rfl)⟩
          · refine cond_f hS rfl hc ?_
            refine wp_exit ?_
            cases hF
            exact hJ5 _ _ (hS.sub (sub_cons rfl (sub_cons rfl (sub_cons rfl (sub_cons rfl sub_nil))))) (hM.pick [0, 1] (by decide) rfl) (by have e := hX6 _ rfl; subst e; exact hF6)
        · refine cond_f hS rfl hc ?_
          refine wp_exit ?_
          cases hF
          exact hJ3 _ _ (hS.sub sub_nil) (hM.pick [] (by decide) rfl) (by have e := hX4 _ rfl; subst e; exact hF4)
      refine wp_seq_k fun K457 hK457 => ?_
      refine wp_region_lit ?_
      refine st_val hS rfl rfl (by decide) (rv_fieldAddr ty_fd_43_1 (hS.ev rfl)) fun a hS => ?_
      refine st_val hS rfl rfl (by decide) (rv_load_bx (hS.ev rfl) ty_ag_38 (hM.get 0 rfl) rfl) fun a hS => ?_
      refine st_val hS rfl rfl (by decide) (rv_len_rowM Tryd.underlying38 (hS.ev rfl) (hM.get 1 rfl)) fun a hS => ?_
      refine st_val hS rfl rfl (by decide) (rv_move (hS.ev rfl)) fun a hS => ?_
      refine wpList_nil ?_
      refine hK457 _ _ ?_
      refine wp_block ?_
      obtain ⟨lb7, hl7, hF7⟩ := bind_some hF
      refine wp_loop_sh (fun s => S_impl_IsGraph_l7 F p0_g_Size p0_g_Rows s) (fun s a w => Sl 66 [(1, (fdp b3 0)), (21, p0_g_Rowsv), (22, (Value.int IntKind.i64 (p0_g_Rows.length : Int))), (23, (Value.int IntKind.i64 s))] a ∧ Mem Nob w0 w [(true, bx b3 43 [(Value.int IntKind.i64 p0_g_Size), p0_g_Rowsv]), (false, rd p0_g_Rowsv (List.map (Value.int IntKind.i64) p0_g_Rows))]) hl7 ⟨(hS.sub (sub_cons rfl (sub_cons rfl (sub_cons rfl (sub_cons rfl sub_nil))))), (hM.pick [0, 1] (by decide) rfl)⟩ ?_
      rintro K7 x458 a w res7 ⟨hS, hM⟩ hF hN7 hX7
      have hF : S_impl_IsGraph_l7 F p0_g_Size p0_g_Rows x458 = some res7 := hF
      have hS : Sl 66 [(1, (fdp b3 0)), (21, p0_g_Rowsv), (22, (Value.int IntKind.i64 (p0_g_Rows.length : Int))), (23, (Value.int IntKind.i64 x458))] a := hS
      have hM : Mem Nob w0 w [(true, bx b3 43 [(Value.int IntKind.i64 p0_g_Size), p0_g_Rowsv]), (false, rd p0_g_Rowsv (List.map (Value.int IntKind.i64) p0_g_Rows))] := hM
      unfold S_impl_IsGraph_l7 at hF
      refine wp_seq_k fun K482 hK482 => ?_
      refine wp_region_lit ?_
      refine st_val hS rfl rfl (by decide) (rv_lss (hS.ev rfl) (hS.ev rfl)) fun a hS => ?_
      refine wpList_nil ?_
      refine hK482 _ _ ?_
      refine wp_seq_k fun K483 hK483 => ?_
      rcases ite_some hF with ⟨hc, hF⟩ | ⟨hc, hF⟩
      · refine cond_t hS rfl hc ?_
        refine wp_skip ?_
        refine hK483 _ _ ?_
        refine wp_seq_k fun K484 hK484 => ?_
        refine wp_block ?_
        refine wp_seq_k fun K495 hK495 => ?_
        refine wp_region_lit ?_
        refine st_val hS rfl rfl (by decide) (rv_move (hS.ev rfl)) fun a hS => ?_
        obtain ⟨x497, hx, hF⟩ := bind_some hF
        obtain ⟨hi0, hi1, hex497⟩ := idxL_some hx
        refine st_val hS rfl rfl (by decide) (rv_indexAddr Tryd.underlying38 ty_el_3 (hS.ev rfl) (hS.ev rfl) (hM.get 1 rfl) hi0 (map_len hi1)) fun a hS => ?_
        refine st_val hS rfl rfl (by decide) (rv_load_el (hS.ev rfl) ty_ag_3 (hM.get 1 rfl) (mget hex497)) fun a hS => ?_
        refine st_val hS rfl rfl (by decide) (rv_assign (hS.ev rfl)) fun a hS => ?_
        refine st_val hS rfl rfl (by decide) (rv_assign (hS.ev rfl)) fun a hS => ?_
        refine wpList_nil ?_
        refine hK495 _ _ ?_
        refine wp_seq_k fun K498 hK498 => ?_
        have hJ8 : ∀ (p501 : Bool) (a : Act) (w : World), Sl 66 [(1, (fdp b3 0)), (21, p0_g_Rowsv), (22, (Value.int IntKind.i64 (p0_g_Rows.length : Int))), (23, (Value.int IntKind.i64 x458)), (39, (Value.bool p501))] a → Mem Nob w0 w [(true, bx b3 43 [(Value.int IntKind.i64 p0_g_Size), p0_g_Rowsv]), (false, rd p0_g_Rowsv (List.map (Value.int IntKind.i64) p0_g_Rows))] → S_impl_IsGraph_j8 F x458 p501 = some res7 → K498 a w := by
          intro p501 a w hS hM hF
          unfold S_impl_IsGraph_j8 at hF
          refine hK498 _ _ ?_
          rcases ite_some hF with ⟨hc, hF⟩ | ⟨hc, hF⟩
          · refine cond_t hS rfl hc ?_
            refine wp_seq_k fun K502 hK502 => ?_
            refine wp_region_lit ?_
            refine st_val hS rfl rfl (by decide) (rv_assign (hS.ev rfl)) fun a hS => ?_
            refine wpList_nil ?_
            refine hK502 _ _ ?_
            refine wp_ret ?_
            cases hF
            have e := hX7 _ rfl
            subst e
            have hF := hF7
            cases hF
            exact hQr _ _ (r_1 hS rfl rfl ⟨rfl, hM.pick [] (by decide) rfl⟩)
          · refine cond_f hS rfl hc ?_
            refine wp_skip ?_
            refine hK484 _ _ ?_
            refine wp_region_lit ?_
            refine st_val hS rfl rfl (by decide) (rv_add (hS.ev rfl) (hS.ev rfl)) fun a hS => ?_
            refine st_val hS rfl rfl (by decide) (rv_move (hS.ev rfl)) fun a hS => ?_
            refine wpList_nil ?_
            cases hF
            exact hN7 _ _ _ rfl ⟨(hS.sub (sub_cons rfl (sub_cons rfl (sub_cons rfl (sub_cons rfl sub_nil))))), (hM.pick [0, 1] (by decide) rfl)⟩
        refine wp_region_lit ?_
        refine st_val hS rfl rfl (by decide) (rv_move (hS.ev rfl)) fun a hS => ?_
        refine st_val hS rfl rfl (by decide) (rv_fieldAddr ty_fd_43_0 (hS.ev rfl)) fun a hS => ?_
        refine st_val hS rfl rfl (by decide) (rv_load_bx (hS.ev rfl) ty_ag_3 (hM.get 0 rfl) rfl) fun a hS => ?_
        obtain ⟨_, hx, hF⟩ := bind_some hF
        have hi0 := nnO_some hx
        refine st_val hS rfl rfl (by decide) (rv_shl (hS.ev rfl) (hS.ev rfl) hi0) fun a hS => ?_
        refine st_val hS rfl rfl (by decide) (rv_sub (hS.ev rfl) (hS.ev rfl)) fun a hS => ?_
        obtain ⟨r503, hr, hF⟩ := bind_some hF
        refine st_wp hS rfl (wp_call hS rfl rfl (by decide) fn_ok_38 rfl (c_impl_within F x497 0 (IntKind.i64.wrap ((shL 1 p0_g_Size) - 1)) hr _) fun v w a hK hS => ?_)
        obtain ⟨rfl, hN⟩ := hK
        have hM := hM.fra hN.fr
        refine st_val hS rfl rfl (by decide) (rv_not (hS.ev rfl)) fun a hS => ?_
        refine st_val hS rfl rfl (by decide) (rv_move (hS.ev rfl)) fun a hS => ?_
        rcases ite_some hF with ⟨hc, hF⟩ | ⟨hc, hF⟩
        · have hS := hS.setb (t := 35) rfl hc
          refine st_skip hS rfl rfl (by decide) fun a hS => ?_
          refine st_skip hS rfl rfl (by decide) fun a hS => ?_
          refine st_skip hS rfl rfl (by decide) fun a hS => ?_
          refine st_val hS rfl rfl (by decide) (rv_pick_t (hS.ev rfl) (hS.ev rfl)) fun a hS => ?_
          refine wpList_nil ?_
          exact hJ8 true _ _ (hS.sub (sub_cons rfl (sub_cons rfl (sub_cons rfl (sub_cons rfl (sub_cons rfl sub_nil)))))) (hM.pick [0, 1] (by decide) rfl) hF
        · have hS := hS.setb (t := 35) rfl hc
          refine st_val hS rfl rfl (by decide) (rv_move (hS.ev rfl)) fun a hS => ?_
          refine st_val hS rfl rfl (by decide) (rv_move (hS.ev rfl)) fun a hS => ?_
          obtain ⟨r504, hr, hF⟩ := bind_some hF
          refine st_wp hS rfl (wp_call hS rfl rfl (by decide) fn_ok_64 rfl (c_impl_has F x497 x458 hr _) fun v w a hK hS => ?_)
          obtain ⟨rfl, hN⟩ := hK
          have hM := hM.fra hN.fr
          refine st_val hS rfl rfl (by decide) (rv_pick_f (hS.ev rfl) (hS.ev rfl)) fun a hS => ?_
          refine wpList_nil ?_
          exact hJ8 r504 _ _ (hS.sub (sub_cons rfl (sub_cons rfl (sub_cons rfl (sub_cons rfl (sub_cons rfl sub_nil)))))) (hM.pick [0, 1] (by decide) rfl) hF
      · refine cond_f hS rfl hc ?_
        refine wp_exit ?_
        cases hF
        exact hJ2 _ _ (hS.sub (sub_cons rfl sub_nil)) (hM.pick [0, 1] (by decide) rfl) (by have e := hX7 _ rfl; subst e; exact hF7)
  refine wp_region_lit ?_
  refine st_val hS rfl rfl (by decide) (rv_fieldAddr ty_fd_43_0 (hS.ev rfl)) fun a hS => ?_
  refine st_val hS rfl rfl (by decide) (rv_load_bx (hS.ev rfl) ty_ag_3 (hM.get 0 rfl) rfl) fun a hS => ?_
  obtain ⟨r505, hr, hF⟩ := bind_some hF
  refine st_wp hS rfl (wp_call hS rfl rfl (by decide) fn_ok_38 rfl (c_impl_within F p0_g_Size 1 7 hr _) fun v w a hK hS => ?_)
  obtain ⟨rfl, hN⟩ := hK
  have hM := hM.fra hN.fr
  refine st_val hS rfl rfl (by decide) (rv_not (hS.ev rfl)) fun a hS => ?_
  refine st_val hS rfl rfl (by decide) (rv_move (hS.ev rfl)) fun a hS => ?_
  rcases ite_some hF with ⟨hc, hF⟩ | ⟨hc, hF⟩
  · have hS := hS.setb (t := 12) rfl hc
    refine st_skip hS rfl rfl (by decide) fun a hS => ?_
    refine st_skip hS rfl rfl (by decide) fun a hS => ?_
    refine st_skip hS rfl rfl (by decide) fun a hS => ?_
    refine st_skip hS rfl rfl (by decide) fun a hS => ?_
    refine st_skip hS rfl rfl (by decide) fun a hS => ?_
    refine st_skip hS rfl rfl (by decide) fun a hS => ?_
    refine st_val hS rfl rfl (by decide) (rv_pick_t (hS.ev rfl) (hS.ev rfl)) fun a hS => ?_
    refine wpList_nil ?_
    exact hJ1 true _ _ (hS.sub (sub_cons rfl (sub_cons rfl sub_nil))) (hM.pick [0, 1] (by decide) rfl) hF
  · have hS := hS.setb (t := 12) rfl hc
    refine st_val hS rfl rfl (by decide) (rv_fieldAddr ty_fd_43_1 (hS.ev rfl)) fun a hS => ?_
    refine st_val hS rfl rfl (by decide) (rv_load_bx (hS.ev rfl) ty_ag_38 (hM.get 0 rfl) rfl) fun a hS => ?_
    refine st_val hS rfl rfl (by decide) (rv_len_rowM Tryd.underlying38 (hS.ev rfl) (hM.get 1 rfl)) fun a hS => ?_
    refine st_val hS rfl rfl (by decide) (rv_fieldAddr ty_fd_43_0 (hS.ev rfl)) fun a hS => ?_
    refine st_val hS rfl rfl (by decide) (rv_load_bx (hS.ev rfl) ty_ag_3 (hM.get 0 rfl) rfl) fun a hS => ?_
    refine st_val hS rfl rfl (by decide) (rv_neq (hS.ev rfl) (hS.ev rfl)) fun a hS => ?_
    refine st_val hS rfl rfl (by decide) (rv_pick_f (hS.ev rfl) (hS.ev rfl)) fun a hS => ?_
    refine wpList_nil ?_
    exact hJ1 ((p0_g_Rows.length : Int) != p0_g_Size) _ _ (hS.sub (sub_cons rfl (sub_cons rfl sub_nil))) (hM.pick [0, 1] (by decide) rfl) hF


theorem c_impl_EdgesOf (F : Nat) (p0_g_Size : Int) (p0_g_Rows : List Int) (p0_g_Rowsv : Value) {r : (List (List Int))} (hF : S_impl_EdgesOf F p0_g_Size p0_g_Rows = some r) (w0 : World) (h0 : RdRow w0 p0_g_Rowsv (List.map (Value.int IntKind.i64) p0_g_Rows)) :
    Calls Tryd.prog 53 [(Value.agg #[(Value.int IntKind.i64 p0_g_Size), p0_g_Rowsv])].toArray w0 (retPost fun v w' => ∃ v423 hs424, v = v423 ∧ Mem Nob w0 w' [(true, mx 38 3 v423 hs424 (List.map (List.map (Value.int IntKind.i64)) r))]) := by
  have hM : Mem Nob w0 w0 [(false, rd p0_g_Rowsv (List.map (Value.int IntKind.i64) p0_g_Rows))] := (Mem.rcons (Mem.nil w0) h0 (by simp))
  refine enter2 Tryd.func53 rfl rfl rfl fun Q a hQr hQn hQp hS => ?_
  have hS : Sl 39 [(0, (Value.agg #[(Value.int IntKind.i64 p0_g_Size), p0_g_Rowsv]))] a := hS
  unfold S_impl_EdgesOf at hF
  refine wp_seq_k fun K1 hK1 => ?_
  refine wp_region_lit ?_
  obtain ⟨b3, w, hr, hM⟩ := hM.boxE (ρ := a.eval) (dst := some 1) (ty := _) (pos := _) (af := _) (gd := _) (x := .tmp 0) (T := 43) [(Value.int IntKind.i64 p0_g_Size), p0_g_Rowsv] (hS.ev rfl) rfl
  refine st_val hS rfl rfl (by decide) hr fun a hS => ?_
  refine st_val hS rfl rfl (by decide) (rv_assign (hS.ev rfl)) fun a hS => ?_
  refine wpList_nil ?_
  refine hK1 _ _ ?_
  refine wp_seq_k fun K4 hK4 => ?_
  refine wp_region_lit ?_
  obtain ⟨v6, w, hr, hM⟩ := Mem.mxLit0 (e2 := 3) (dst := some 7) (ty := _) (pos := _) (af := _) (gd := _) hM hS Tryd.underlying67 ty_el_38 rfl
  refine st_val hS rfl rfl (by decide) hr fun a hS => ?_
  refine st_val hS rfl rfl (by decide) (rv_assign (hS.ev rfl)) fun a hS => ?_
  refine wpList_nil ?_
  refine hK4 _ _ ?_
  refine wp_seq_k fun K7 hK7 => ?_
  refine wp_seq_k fun K12 hK12 => ?_
  refine wp_region_lit ?_
  refine st_val hS rfl rfl (by decide) (rv_load_agg (hS.ev rfl) ty_ag_43 (hM.get 1 rfl) ty_sz_43) fun a hS => ?_
  obtain ⟨r14, hr, hF⟩ := bind_some hF
  refine st_wp hS rfl (wp_call hS rfl rfl (by decide) fn_ok_52 rfl (c_impl_IsGraph F p0_g_Size p0_g_Rows p0_g_Rowsv hr _ (hM.get 2 rfl)) fun v w a hK hS => ?_)
  obtain ⟨rfl, hN⟩ := hK
  have hM := hM.fra hN.fr
  refine st_val hS rfl rfl (by decide) (rv_not (hS.ev rfl)) fun a hS => ?_
  refine wpList_nil ?_
  refine hK12 _ _ ?_
  rcases ite_some hF with ⟨hc, hF⟩ | ⟨hc, hF⟩
  · refine cond_t hS rfl hc ?_
    refine wp_seq_k fun K15 hK15 => ?_
    refine wp_region_lit ?_
    refine st_val hS rfl rfl (by decide) (rv_move (hS.ev rfl)) fun a hS => ?_
    refine st_val hS rfl rfl (by decide) (rv_assign (hS.ev rfl)) fun a hS => ?_
    refine wpList_nil ?_
    refine hK15 _ _ ?_
    refine wp_ret ?_
    cases hF
    exact hQr _ _ (r_1 hS rfl rfl ⟨v6, [], rfl, hM.pick [0] (by decide) rfl⟩)
  · refine cond_f hS rfl hc ?_
    refine wp_skip ?_
    refine hK7 _ _ ?_
    refine wp_seq_k fun K16 hK16 => ?_
    have hJ1 : ∀ (l220 : List (List Int)) (v218 : Value) (hs219 : List Value) (a : Act) (w : World), Sl 39 [(3, v218)] a → Mem Nob w0 w [(true, mx 38 3 v218 hs219 (List.map (List.map (Value.int IntKind.i64)) l220))] → S_impl_EdgesOf_j1 F l220 = some r → K16 a w := by
      intro l220 v218 hs219 a w hS hM hF
      unfold S_impl_EdgesOf_j1 at hF
      refine hK16 _ _ ?_
      refine wp_seq_k fun K221 hK221 => ?_
      refine wp_region_lit ?_
      refine st_val hS rfl rfl (by decide) (rv_move (hS.ev rfl)) fun a hS => ?_
      refine st_val hS rfl rfl (by decide) (rv_assign (hS.ev rfl)) fun a hS => ?_
      refine wpList_nil ?_
      refine hK221 _ _ ?_
      refine wp_ret ?_
      cases hF
      exact hQr _ _ (r_1 hS rfl rfl ⟨v218, hs219, rfl, hM.pick [0] (by decide) rfl⟩)
    refine wp_seq_k fun K222 hK222 => ?_
    refine wp_region_lit ?_
    refine st_val hS rfl rfl (by decide) (rv_fieldAddr ty_fd_43_1 (hS.ev rfl)) fun a hS => ?_
    refine st_val hS rfl rfl (by decide) (rv_load_bx (hS.ev rfl) ty_ag_38 (hM.get 1 rfl) rfl) fun a hS => ?_
    refine st_val hS rfl rfl (by decide) (rv_len_rowM Tryd.underlying38 (hS.ev rfl) (hM.get 2 rfl)) fun a hS => ?_
    refine st_val hS rfl rfl (by decide) (rv_move (hS.ev rfl)) fun a hS => ?_
    refine wpList_nil ?_
    refine hK222 _ _ ?_
    refine wp_block ?_
    obtain ⟨lb2, hl2, hF2⟩ := bind_some hF
    refine wp_loop_sh (fun s => S_impl_EdgesOf_l2 F p0_g_Size p0_g_Rows s.1 s.2) (fun s a w => ∃ (v223 : Value) (hs224 : List Value), Sl 39 [(1, (fdp b3 0)), (3, v223), (13, p0_g_Rowsv), (14, (Value.int IntKind.i64 (p0_g_Rows.length : Int))), (15, (Value.int IntKind.i64 s.2))] a ∧ Mem Nob w0 w [(true, bx b3 43 [(Value.int IntKind.i64 p0_g_Size), p0_g_Rowsv]), (false, rd p0_g_Rowsv (List.map (Value.int IntKind.i64) p0_g_Rows)), (true, mx 38 3 v223 hs224 (List.map (List.map (Value.int IntKind.i64)) s.1))]) hl2 ⟨v6, [], (hS.sub (sub_cons rfl (sub_cons rfl (sub_cons rfl (sub_cons rfl (sub_cons rfl sub_nil)))))), (hM.pick [1, 2, 0] (by decide) rfl)⟩ ?_
    rintro K2 ⟨l225, x226⟩ a w res2 ⟨v223, hs224, hS, hM⟩ hF hN2 hX2
    have hF : S_impl_EdgesOf_l2 F p0_g_Size p0_g_Rows l225 x226 = some res2 := hF
    have hS : Sl 39 [(1, (fdp b3 0)), (3, v223), (13, p0_g_Rowsv), (14, (Value.int IntKind.i64 (p0_g_Rows.length : Int))), (15, (Value.int IntKind.i64 x226))] a := hS
    have hM : Mem Nob w0 w [(true, bx b3 43 [(Value.int IntKind.i64 p0_g_Size), p0_g_Rowsv]), (false, rd p0_g_Rowsv (List.map (Value.int IntKind.i64) p0_g_Rows)), (true, mx 38 3 v223 hs224 (List.map (List.map (Value.int IntKind.i64)) l225))] := hM
    unfold S_impl_EdgesOf_l2 at hF
    refine wp_seq_k fun K325 hK325 => ?_
    refine wp_region_lit ?_
    refine st_val hS rfl rfl (by decide) (rv_lss (hS.ev rfl) (hS.ev rfl)) fun a hS => ?_
    refine wpList_nil ?_
    refine hK325 _ _ ?_
    refine wp_seq_k fun K326 hK326 => ?_
    rcases ite_some hF with ⟨hc, hF⟩ | ⟨hc, hF⟩
    · refine cond_t hS rfl hc ?_
      refine wp_skip ?_
      refine hK326 _ _ ?_
      refine wp_seq_k fun K327 hK327 => ?_
      have hJ3 : ∀ (l376 : List (List Int)) (v374 : Value) (hs375 : List Value) (a : Act) (w : World), Sl 39 [(1, (fdp b3 0)), (3, v374), (13, p0_g_Rowsv), (14, (Value.int IntKind.i64 (p0_g_Rows.length : Int))), (15, (Value.int IntKind.i64 x226))] a → Mem Nob w0 w [(true, bx b3 43 [(Value.int IntKind.i64 p0_g_Size), p0_g_Rowsv]), (false, rd p0_g_Rowsv (List.map (Value.int IntKind.i64) p0_g_Rows)), (true, mx 38 3 v374 hs375 (List.map (List.map (Value.int IntKind.i64)) l376))] → S_impl_EdgesOf_j3 F x226 l376 = some res2 → K327 a w := by
        intro l376 v374 hs375 a w hS hM hF
        unfold S_impl_EdgesOf_j3 at hF
        refine hK327 _ _ ?_
        refine wp_region_lit ?_
        refine st_val hS rfl rfl (by decide) (rv_add (hS.ev rfl) (hS.ev rfl)) fun a hS => ?_
        refine st_val hS rfl rfl (by decide) (rv_move (hS.ev rfl)) fun a hS => ?_
        refine wpList_nil ?_
        cases hF
        exact hN2 _ _ _ rfl ⟨v374, hs375, (hS.sub (sub_cons rfl (sub_cons rfl (sub_cons rfl (sub_cons rfl (sub_cons rfl sub_nil)))))), (hM.pick [0, 1, 2] (by decide) rfl)⟩
      refine wp_block ?_
      refine wp_seq_k fun K377 hK377 => ?_
      refine wp_region_lit ?_
      refine st_val hS rfl rfl (by decide) (rv_move (hS.ev rfl)) fun a hS => ?_
      obtain ⟨x379, hx, hF⟩ := bind_some hF
      obtain ⟨hi0, hi1, hex379⟩ := idxL_some hx
      refine st_val hS rfl rfl (by decide) (rv_indexAddr Tryd.underlying38 ty_el_3 (hS.ev rfl) (hS.ev rfl) (hM.get 1 rfl) hi0 (map_len hi1)) fun a hS => ?_
      refine st_val hS rfl rfl (by decide) (rv_load_el (hS.ev rfl) ty_ag_3 (hM.get 1 rfl) (mget hex379)) fun a hS => ?_
      refine st_val hS rfl rfl (by decide) (rv_assign (hS.ev rfl)) fun a hS => ?_
      refine st_val hS rfl rfl (by decide) (rv_assign (hS.ev rfl)) fun a hS => ?_
      refine wpList_nil ?_
      refine hK377 _ _ ?_
      refine wp_seq_k fun K380 hK380 => ?_
      refine wp_region_lit ?_
      refine st_val hS rfl rfl (by decide) (rv_move (hS.ev rfl)) fun a hS => ?_
      refine st_val hS rfl rfl (by decide) (rv_add (hS.ev rfl) (hS.ev rfl)) fun a hS => ?_
      refine st_val hS rfl rfl (by decide) (rv_assign (hS.ev rfl)) fun a hS => ?_
      refine wpList_nil ?_
      refine hK380 _ _ ?_
      refine wp_block ?_
      obtain ⟨lb4, hl4, hF4⟩ := bind_some hF
      refine wp_loop_sh (fun s => S_impl_EdgesOf_l4 F p0_g_Size x226 x379 s.1 s.2) (fun s a w => ∃ (v381 : Value) (hs382 : List Value), Sl 39 [(1, (fdp b3 0)), (3, v381), (4, (Value.int IntKind.i64 x226)), (5, (Value.int IntKind.i64 x379)), (6, (Value.int IntKind.i64 s.2)), (13, p0_g_Rowsv), (14, (Value.int IntKind.i64 (p0_g_Rows.length : Int))), (15, (Value.int IntKind.i64 x226))] a ∧ Mem Nob w0 w [(true, bx b3 43 [(Value.int IntKind.i64 p0_g_Size), p0_g_Rowsv]), (false, rd p0_g_Rowsv (List.map (Value.int IntKind.i64) p0_g_Rows)), (true, mx 38 3 v381 hs382 (List.map (List.map (Value.int IntKind.i64)) s.1))]) hl4 ⟨v223, hs224, (hS.sub (sub_cons rfl (sub_cons rfl (sub_cons rfl (sub_cons rfl (sub_cons rfl (sub_cons rfl (sub_cons rfl (sub_cons rfl sub_nil))))))))), (hM.pick [0, 1, 2] (by decide) rfl)⟩ ?_
      rintro K4 ⟨l383, x384⟩ a w res4 ⟨v381, hs382, hS, hM⟩ hF hN4 hX4
      have hF : S_impl_EdgesOf_l4 F p0_g_Size x226 x379 l383 x384 = some res4 := hF
      have hS : Sl 39 [(1, (fdp b3 0)), (3, v381), (4, (Value.int IntKind.i64 x226)), (5, (Value.int IntKind.i64 x379)), (6, (Value.int IntKind.i64 x384)), (13, p0_g_Rowsv), (14, (Value.int IntKind.i64 (p0_g_Rows.length : Int))), (15, (Value.int IntKind.i64 x226))] a := hS
      have hM : Mem Nob w0 w [(true, bx b3 43 [(Value.int IntKind.i64 p0_g_Size), p0_g_Rowsv]), (false, rd p0_g_Rowsv (List.map (Value.int IntKind.i64) p0_g_Rows)), (true, mx 38 3 v381 hs382 (List.map (List.map (Value.int IntKind.i64)) l383))] := hM
      unfold S_impl_EdgesOf_l4 at hF
      refine wp_seq_k fun K404 hK404 => ?_
      refine wp_seq_k fun K406 hK406 => ?_
      refine wp_region_lit ?_
      refine st_val hS rfl rfl (by decide) (rv_move (hS.ev rfl)) fun a hS => ?_
      refine st_val hS rfl rfl (by decide) (rv_fieldAddr ty_fd_43_0 (hS.ev rfl)) fun a hS => ?_
      refine st_val hS rfl rfl (by decide) (rv_load_bx (hS.ev rfl) ty_ag_3 (hM.get 0 rfl) rfl) fun a hS => ?_
      refine st_val hS rfl rfl (by decide) (rv_lss (hS.ev rfl) (hS.ev rfl)) fun a hS => ?_
      refine wpList_nil ?_
      refine hK406 _ _ ?_
      rcases ite_some hF with ⟨hc, hF⟩ | ⟨hc, hF⟩
      · refine cond_t hS rfl hc ?_
        refine wp_skip ?_
        refine hK404 _ _ ?_
        refine wp_seq_k fun K407 hK407 => ?_
        have hJ5 : ∀ (l416 : List (List Int)) (v414 : Value) (hs415 : List Value) (a : Act) (w : World), Sl 39 [(1, (fdp b3 0)), (3, v414), (4, (Value.int IntKind.i64 x226)), (5, (Value.int IntKind.i64 x379)), (6, (Value.int IntKind.i64 x384)), (13, p0_g_Rowsv), (14, (Value.int IntKind.i64 (p0_g_Rows.length : Int))), (15, (Value.int IntKind.i64 x226))] a → Mem Nob w0 w [(true, bx b3 43 [(Value.int IntKind.i64 p0_g_Size), p0_g_Rowsv]), (false, rd p0_g_Rowsv (List.map (Value.int IntKind.i64) p0_g_Rows)), (true, mx 38 3 v414 hs415 (List.map (List.map (Value.int IntKind.i64)) l416))] → S_impl_EdgesOf_j5 F x384 l416 = some res4 → K407 a w := by
          intro l416 v414 hs415 a w hS hM hF
          unfold S_impl_EdgesOf_j5 at hF
          refine hK407 _ _ ?_
          refine wp_region_lit ?_
          refine st_val hS rfl rfl (by decide) (rv_move (hS.ev rfl)) fun a hS => ?_
          refine st_val hS rfl rfl (by decide) (rv_add (hS.ev rfl) (hS.ev rfl)) fun a hS => ?_
          refine st_val hS rfl rfl (by decide) (rv_assign (hS.ev rfl)) fun a hS => ?_
          refine wpList_nil ?_
          cases hF
          exact hN4 _ _ _ rfl ⟨v414, hs415, (hS.sub (sub_cons rfl (sub_cons rfl (sub_cons rfl (sub_cons rfl (sub_cons rfl (sub_cons rfl (sub_cons rfl (sub_cons rfl sub_nil))))))))), (hM.pick [0, 1, 2] (by decide) rfl)⟩
        refine wp_block ?_
        refine wp_seq_k fun K417 hK417 => ?_
        refine wp_region_lit ?_
        refine st_val hS rfl rfl (by decide) (rv_move (hS.ev rfl)) fun a hS => ?_
        refine st_val hS rfl rfl (by decide) (rv_move (hS.ev rfl)) fun a hS => ?_
        obtain ⟨r419, hr, hF⟩ := bind_some hF
        refine st_wp hS rfl (wp_call hS rfl rfl (by decide) fn_ok_64 rfl (c_impl_has F x379 x384 hr _) fun v w a hK hS => ?_)
        obtain ⟨rfl, hN⟩ := hK
        have hM := hM.fra hN.fr
        refine wpList_nil ?_
        refine hK417 _ _ ?_
        rcases ite_some hF with ⟨hc, hF⟩ | ⟨hc, hF⟩
        · refine cond_t hS rfl hc ?_
          refine wp_region_lit ?_
          refine st_val hS rfl rfl (by decide) (rv_move (hS.ev rfl)) fun a hS => ?_
          refine st_val hS rfl rfl (by decide) (rv_move (hS.ev rfl)) fun a hS => ?_
          refine st_val hS rfl rfl (by decide) (rv_move (hS.ev rfl)) fun a hS => ?_
          obtain ⟨v420, w, hr, hM⟩ := Mem.litE (f := (Value.int IntKind.i64)) (dst := some 34) (ty := _) (pos := _) (af := _) (gd := _) (ps := [(0, .tmp 32), (1, .tmp 33)]) ([x226, x384] : List (Int)) i64_one hM hS Tryd.underlying38 ty_el_3 rfl rfl rfl rfl
          refine st_val hS rfl rfl (by decide) hr fun a hS => ?_
          obtain ⟨v421, w, hr, hM⟩ := Mem.mxLit1 (dst := some 35) (ty := _) (pos := _) (af := _) (gd := _) (x := .tmp 34) hM hS Tryd.underlying67 ty_el_38 rfl rfl
          refine st_val hS rfl rfl (by decide) hr fun a hS => ?_
          obtain ⟨_, hx, hF⟩ := bind_some hF
          have hM := hM.pick [3, 0, 1, 2] (by decide) rfl
          obtain ⟨v422, w, hr, hM⟩ := Mem.mxApp (ρ := a.eval) (dst := some 36) (ty := _) (pos := _) (af := _) (gd := _) (x := .tmp 31) (y := .tmp 35) hM Tryd.underlying67 ty_el_38 rfl (by decide) (hS.ev rfl) (hS.ev rfl) (by simpa using catO_some hx)
          have hM : Mem Nob w0 w [(true, mx 38 3 v422 (hs382 ++ [v420]) (List.map (List.map (Value.int IntKind.i64)) (l383 ++ ([([x226, x384] : List (Int))] : List (List Int))))), (true, bx b3 43 [(Value.int IntKind.i64 p0_g_Size), p0_g_Rowsv]), (false, rd p0_g_Rowsv (List.map (Value.int IntKind.i64) p0_g_Rows))] := by rw [List.map_append]; exact hM
          refine st_val hS rfl rfl (by decide) hr fun a hS => ?_
          refine st_val hS rfl rfl (by decide) (rv_assign (hS.ev rfl)) fun a hS => ?_
          refine wpList_nil ?_
          exact hJ5 (l383 ++ ([([x226, x384] : List (Int))] : List (List Int))) v422 (hs382 ++ [v420]) _ _ (hS.sub (sub_cons rfl (sub_cons rfl (sub_cons rfl (sub_cons rfl (sub_cons rfl (sub_cons rfl (sub_cons rfl (sub_cons rfl sub_nil))))))))) (hM.pick [1, 2, 0] (by decide) rfl) hF
        · refine cond_f hS rfl hc ?_
          refine wp_skip ?_
          exact hJ5 l383 v381 hs382 _ _ (hS.sub (sub_cons rfl (sub_cons rfl (sub_cons rfl (sub_cons rfl (sub_cons rfl (sub_cons rfl (sub_cons rfl (sub_cons rfl sub_nil))))))))) (hM.pick [0, 1, 2] (by decide) rfl) hF
      · refine cond_f hS rfl hc ?_
        refine wp_exit ?_
        cases hF
        exact hJ3 l383 v381 hs382 _ _ (hS.sub (sub_cons rfl (sub_cons rfl (sub_cons rfl (sub_cons rfl (sub_cons rfl sub_nil)))))) (hM.pick [0, 1, 2] (by decide) rfl) (by have e := hX4 _ rfl; subst e; exact hF4)
    · refine cond_f hS rfl hc ?_
      refine wp_exit ?_
      cases hF
      exact hJ1 l225 v223 hs224 _ _ (hS.sub (sub_cons rfl sub_nil)) (hM.pick [2] (by decide) rfl) (by have e := hX2 _ rfl; subst e; exact hF2)


theorem c_impl_FormatGraph (F : Nat) (p0_g_Size : Int) (p0_g_Rows : List Int) (p0_g_Rowsv : Value) {r : (List UInt8)} (hF : S_impl_FormatGraph F p0_g_Size p0_g_Rows = some r) (w0 : World) (h0 : RdRow w0 p0_g_Rowsv (List.map (Value.int IntKind.i64) p0_g_Rows)) (h1 : (tabR Tryd.prog tabN).P w0) :
    Calls Tryd.prog 28 [(Value.agg #[(Value.int IntKind.i64 p0_g_Size), p0_g_Rowsv])].toArray w0 (retPost fun v w' => v = (Value.string (bs r)) ∧ Mem Nob w0 w' []) := by
  have hM : Mem Nob w0 w0 [(false, rd p0_g_Rowsv (List.map (Value.int IntKind.i64) p0_g_Rows)), (false, tabR Tryd.prog tabN)] := (Mem.rcons (Mem.gcons (Mem.nil w0) h1 (by simp)) h0 (by simp))
  refine enter2 Tryd.func28 rfl rfl rfl fun Q a hQr hQn hQp hS => ?_
  have hS : Sl 34 [(0, (Value.agg #[(Value.int IntKind.i64 p0_g_Size), p0_g_Rowsv]))] a := hS
  unfold S_impl_FormatGraph at hF
  refine wp_seq_k fun K1 hK1 => ?_
  refine wp_region_lit ?_
  obtain ⟨b3, w, hr, hM⟩ := hM.boxE (ρ := a.eval) (dst := some 1) (ty := _) (pos := _) (af := _) (gd := _) (x := .tmp 0) (T := 43) [(Value.int IntKind.i64 p0_g_Size), p0_g_Rowsv] (hS.ev rfl) rfl
  refine st_val hS rfl rfl (by decide) hr fun a hS => ?_
  refine st_val hS rfl rfl (by decide) (rv_assign (hS.ev rfl)) fun a hS => ?_
  refine wpList_nil ?_
  refine hK1 _ _ ?_
  refine wp_seq_k fun K4 hK4 => ?_
  refine wp_seq_k fun K9 hK9 => ?_
  refine wp_region_lit ?_
  refine st_val hS rfl rfl (by decide) (rv_load_agg (hS.ev rfl) ty_ag_43 (hM.get 0 rfl) ty_sz_43) fun a hS => ?_
  obtain ⟨r11, hr, hF⟩ := bind_some hF
  refine st_wp hS rfl (wp_call hS rfl rfl (by decide) fn_ok_52 rfl (c_impl_IsGraph F p0_g_Size p0_g_Rows p0_g_Rowsv hr _ (hM.get 1 rfl)) fun v w a hK hS => ?_)
  obtain ⟨rfl, hN⟩ := hK
  have hM := hM.fra hN.fr
  refine st_val hS rfl rfl (by decide) (rv_not (hS.ev rfl)) fun a hS => ?_
  refine wpList_nil ?_
  refine hK9 _ _ ?_
  rcases ite_some hF with ⟨hc, hF⟩ | ⟨hc, hF⟩
  · refine cond_t hS rfl hc ?_
    refine wp_seq_k fun K12 hK12 => ?_
    refine wp_region_lit ?_
    refine st_val hS rfl rfl (by decide) (rv_assign (hS.ev rfl)) fun a hS => ?_
    refine wpList_nil ?_
    refine hK12 _ _ ?_
    refine wp_ret ?_
    cases hF
    exact hQr _ _ (r_1 hS rfl rfl ⟨rfl, hM.pick [] (by decide) rfl⟩)
  · refine cond_f hS rfl hc ?_
    refine wp_skip ?_
    refine hK4 _ _ ?_
    refine wp_seq_k fun K13 hK13 => ?_
    refine wp_region_lit ?_
    refine st_val hS rfl rfl (by decide) (rv_fieldAddr ty_fd_43_0 (hS.ev rfl)) fun a hS => ?_
    refine st_val hS rfl rfl (by decide) (rv_load_bx (hS.ev rfl) ty_ag_3 (hM.get 0 rfl) rfl) fun a hS => ?_
    obtain ⟨r15, hr, hF⟩ := bind_some hF
    refine st_wp hS rfl (wp_call hS rfl rfl (by decide) fn_ok_20 rfl (c_impl_FormatInt F p0_g_Size hr _ (hM.get 2 rfl)) fun v w a hK hS => ?_)
    obtain ⟨rfl, hN⟩ := hK
    have hM := hM.fra hN.fr
    obtain ⟨_, hx, hF⟩ := bind_some hF
    have hi0 := catO_some hx
    refine st_val hS rfl rfl (by decide) (rv_str_add (hS.ev rfl) (hS.ev rfl) hi0) fun a hS => ?_
    refine st_val hS rfl rfl (by decide) (rv_assign (hS.ev rfl)) fun a hS => ?_
    refine wpList_nil ?_
    refine hK13 _ _ ?_
    refine wp_seq_k fun K16 hK16 => ?_
    have hJ1 : ∀ (s68 : List UInt8) (a : Act) (w : World), Sl 34 [(3, (Value.string (bs s68)))] a → Mem Nob w0 w [(false, tabR Tryd.prog tabN)] → S_impl_FormatGraph_j1 F s68 = some r → K16 a w := by
      intro s68 a w hS hM hF
      unfold S_impl_FormatGraph_j1 at hF
      refine hK16 _ _ ?_
      refine wp_seq_k fun K69 hK69 => ?_
      refine wp_region_lit ?_
      refine st_val hS rfl rfl (by decide) (rv_move (hS.ev rfl)) fun a hS => ?_
      refine st_val hS rfl rfl (by decide) (rv_assign (hS.ev rfl)) fun a hS => ?_
      refine wpList_nil ?_
      refine hK69 _ _ ?_
      refine wp_ret ?_
      cases hF
      exact hQr _ _ (r_1 hS rfl rfl ⟨rfl, hM.pick [] (by decide) rfl⟩)
    refine wp_seq_k fun K70 hK70 => ?_
    refine wp_region_lit ?_
    refine st_val hS rfl rfl (by decide) (rv_load_agg (hS.ev rfl) ty_ag_43 (hM.get 0 rfl) ty_sz_43) fun a hS => ?_
    obtain ⟨r74, hr, hF⟩ := bind_some hF
    refine st_wp hS rfl (wp_call hS rfl rfl (by decide) fn_ok_53 rfl (c_impl_EdgesOf F p0_g_Size p0_g_Rows p0_g_Rowsv hr _ (hM.get 1 rfl)) fun v w a hK hS => ?_)
    obtain ⟨v75, hs76, hv0, hN⟩ := hK
    subst v
    have hM := hM.add hN rfl
    refine st_val hS rfl rfl (by decide) (rv_len_mxM Tryd.underlying67 (hS.ev rfl) (hM.get 0 rfl)) fun a hS => ?_
    refine st_val hS rfl rfl (by decide) (rv_move (hS.ev rfl)) fun a hS => ?_
    refine wpList_nil ?_
    refine hK70 _ _ ?_
    refine wp_block ?_
    obtain ⟨lb2, hl2, hF2⟩ := bind_some hF
    refine wp_loop_sh (fun s => S_impl_FormatGraph_l2 F r74 s.1 s.2) (fun s a w => Sl 34 [(3, (Value.string (bs s.1))), (14, v75), (15, (Value.int IntKind.i64 (r74.length : Int))), (16, (Value.int IntKind.i64 s.2))] a ∧ Mem Nob w0 w [(true, mx 38 3 v75 hs76 (List.map (List.map (Value.int IntKind.i64)) r74)), (false, tabR Tryd.prog tabN)]) hl2 ⟨(hS.sub (sub_cons rfl (sub_cons rfl (sub_cons rfl (sub_cons rfl sub_nil))))), (hM.pick [0, 3] (by decide) rfl)⟩ ?_
    rintro K2 ⟨s77, x78⟩ a w res2 ⟨hS, hM⟩ hF hN2 hX2
    have hF : S_impl_FormatGraph_l2 F r74 s77 x78 = some res2 := hF
    have hS : Sl 34 [(3, (Value.string (bs s77))), (14, v75), (15, (Value.int IntKind.i64 (r74.length : Int))), (16, (Value.int IntKind.i64 x78))] a := hS
    have hM : Mem Nob w0 w [(true, mx 38 3 v75 hs76 (List.map (List.map (Value.int IntKind.i64)) r74)), (false, tabR Tryd.prog tabN)] := hM
    unfold S_impl_FormatGraph_l2 at hF
    refine wp_seq_k fun K100 hK100 => ?_
    refine wp_region_lit ?_
    refine st_val hS rfl rfl (by decide) (rv_lss (hS.ev rfl) (hS.ev rfl)) fun a hS => ?_
    refine wpList_nil ?_
    refine hK100 _ _ ?_
    refine wp_seq_k fun K101 hK101 => ?_
    rcases ite_some hF with ⟨hc, hF⟩ | ⟨hc, hF⟩
    · refine cond_t hS rfl hc ?_
      refine wp_skip ?_
      refine hK101 _ _ ?_
      refine wp_seq_k fun K102 hK102 => ?_
      refine wp_block ?_
      refine wp_seq_k fun K112 hK112 => ?_
      refine wp_region_lit ?_
      obtain ⟨x115, hx, hF⟩ := bind_some hF
      obtain ⟨hi0, hi1, hex115⟩ := idxL_some hx
      refine st_val hS rfl rfl (by decide) (rv_indexAddr Tryd.underlying67 ty_el_38 (hS.ev rfl) (hS.ev rfl) (mx_rd (hM.get 0 rfl)) hi0 (mx_lt (hM.get 0 rfl) hi1)) fun a hS => ?_
      obtain ⟨v116, hgx115⟩ := mx_get (hM.get 0 rfl) (mget hex115)
      refine st_val hS rfl rfl (by decide) (rv_load_el (hS.ev rfl) ty_ag_38 (mx_rd (hM.get 0 rfl)) hgx115) fun a hS => ?_
      refine st_val hS rfl rfl (by decide) (rv_assign (hS.ev rfl)) fun a hS => ?_
      refine wpList_nil ?_
      refine hK112 _ _ ?_
      refine an_start Nob ty_mixed fun w hf => ?_
      have hM := hM.fra hf
      have hB := hM
      have hM := hB.reg0
      refine an_take hS (i := 0) rfl (by kernel_rfl) (by kernel_rfl) (by kernel_rfl) rfl (by decide) (fun c a a' w hd h => hQp c a a' w hd h) rfl (fun w' hC' => (rv_move (hS.ev rfl))) hM.fr fun a hS => ?_
      refine an_take hS (i := 1) rfl (by kernel_rfl) (by kernel_rfl) (by kernel_rfl) rfl (by decide) (fun c a a' w hd h => hQp c a a' w hd h) rfl (fun w' hC' => (rv_move (hS.ev rfl))) hM.fr fun a hS => ?_
      obtain ⟨x117, hx, hF⟩ := bind_some hF
      obtain ⟨hi0, hi1, hex117⟩ := idxL_some hx
      refine an_take hS (i := 2) rfl (by kernel_rfl) (by kernel_rfl) (by kernel_rfl) rfl (by decide) (fun c a a' w hd h => hQp c a a' w hd h) rfl (fun w' hC' => (rv_indexAddr Tryd.underlying38 ty_el_3 (hS.ev rfl) (hS.ev rfl) (mx_row (hM.get 0 rfl) hgx115 (mget hex115)) hi0 (map_len hi1))) hM.fr fun a hS => ?_
      refine an_take hS (i := 3) rfl (by kernel_rfl) (by kernel_rfl) (by kernel_rfl) rfl (by decide) (fun c a a' w hd h => hQp c a a' w hd h) rfl (fun w' hC' => (rv_load_el (hS.ev rfl) ty_ag_3 (mx_row ((hB.fra hC').get 0 rfl) hgx115 (mget hex115)) (mget hex117))) hM.fr fun a hS => ?_
      refine an_take hS (i := 6) rfl (by kernel_rfl) (by kernel_rfl) (by kernel_rfl) rfl (by decide) (fun c a a' w hd h => hQp c a a' w hd h) rfl (fun w' hC' => (rv_move (hS.ev rfl))) hM.fr fun a hS => ?_
      obtain ⟨x118, hx, hF⟩ := bind_some hF
      obtain ⟨hi0, hi1, hex118⟩ := idxL_some hx
      refine an_take hS (i := 7) rfl (by kernel_rfl) (by kernel_rfl) (by kernel_rfl) rfl (by decide) (fun c a a' w hd h => hQp c a a' w hd h) rfl (fun w' hC' => (rv_indexAddr Tryd.underlying38 ty_el_3 (hS.ev rfl) (hS.ev rfl) (mx_row (hM.get 0 rfl) hgx115 (mget hex115)) hi0 (map_len hi1))) hM.fr fun a hS => ?_
      refine an_take hS (i := 8) rfl (by kernel_rfl) (by kernel_rfl) (by kernel_rfl) rfl (by decide) (fun c a a' w hd h => hQp c a a' w hd h) rfl (fun w' hC' => (rv_load_el (hS.ev rfl) ty_ag_3 (mx_row ((hB.fra hC').get 0 rfl) hgx115 (mget hex115)) (mget hex118))) hM.fr fun a hS => ?_
      obtain ⟨r119, hr, hF⟩ := bind_some hF
      refine an_one hS (i := 4) rfl (by kernel_rfl) rfl ?_
      refine wp_call hS rfl rfl (by decide) fn_ok_20 rfl (c_impl_FormatInt F x117 hr _ (hM.get 1 rfl)) fun v w a hK hS => ?_
      obtain ⟨rfl, hN⟩ := hK
      have hM := hM.fra hN.fr
      refine ⟨hM.fr, ?_⟩
      obtain ⟨_, hx, hF⟩ := bind_some hF
      have hi0 := catO_some hx
      refine an_take hS (i := 5) rfl (by kernel_rfl) (by kernel_rfl) (by kernel_rfl) rfl (by decide) (fun c a a' w hd h => hQp c a a' w hd h) rfl (fun w' hC' => (rv_str_add (hS.ev rfl) (hS.ev rfl) hi0)) hM.fr fun a hS => ?_
      obtain ⟨r120, hr, hF⟩ := bind_some hF
      refine an_one hS (i := 9) rfl (by kernel_rfl) rfl ?_
      refine wp_call hS rfl rfl (by decide) fn_ok_20 rfl (c_impl_FormatInt F x118 hr _ (hM.get 1 rfl)) fun v w a hK hS => ?_
      obtain ⟨rfl, hN⟩ := hK
      have hM := hM.fra hN.fr
      refine ⟨hM.fr, ?_⟩
      obtain ⟨_, hx, hF⟩ := bind_some hF
      have hi0 := catO_some hx
      refine an_take hS (i := 10) rfl (by kernel_rfl) (by kernel_rfl) (by kernel_rfl) rfl (by decide) (fun c a a' w hd h => hQp c a a' w hd h) rfl (fun w' hC' => (rv_str_add (hS.ev rfl) (hS.ev rfl) hi0)) hM.fr fun a hS => ?_
      obtain ⟨_, hx, hF⟩ := bind_some hF
      have hi0 := catO_some hx
      refine an_take hS (i := 11) rfl (by kernel_rfl) (by kernel_rfl) (by kernel_rfl) rfl (by decide) (fun c a a' w hd h => hQp c a a' w hd h) rfl (fun w' hC' => (rv_str_add (hS.ev rfl) (hS.ev rfl) hi0)) hM.fr fun a hS => ?_
      refine an_take hS (i := 12) rfl (by kernel_rfl) (by kernel_rfl) (by kernel_rfl) rfl (by decide) (fun c a a' w hd h => hQp c a a' w hd h) rfl (fun w' hC' => (rv_assign (hS.ev rfl))) hM.fr fun a hS => ?_
      refine an_done (by kernel_rfl) ?_
      have hN := hM.pick [] (by decide) rfl
      have hM := Mem.callo (A := []) (B := [(true, mx 38 3 v75 hs76 (List.map (List.map (Value.int IntKind.i64)) r74)), (false, tabR Tryd.prog tabN)]) hB rfl (hN.memS fun _ h => h.elim) rfl
      refine hK102 _ _ ?_
      refine wp_region_lit ?_
      refine st_val hS rfl rfl (by decide) (rv_add (hS.ev rfl) (hS.ev rfl)) fun a hS => ?_
      refine st_val hS rfl rfl (by decide) (rv_move (hS.ev rfl)) fun a hS => ?_
      refine wpList_nil ?_
      cases hF
      exact hN2 _ _ _ rfl ⟨(hS.sub (sub_cons rfl (sub_cons rfl (sub_cons rfl (sub_cons rfl sub_nil))))), (hM.pick [0, 1] (by decide) rfl)⟩
    · refine cond_f hS rfl hc ?_
      refine wp_exit ?_
      cases hF
      exact hJ1 s77 _ _ (hS.sub (sub_cons rfl sub_nil)) (hM.pick [1] (by decide) rfl) (by have e := hX2 _ rfl; subst e; exact hF2)


theorem c_laws_eqIntS (F : Nat) (p0_a : List Int) (p1_b : List Int) (p0_av : Value) (p1_bv : Value) {r : Bool} (hF : S_laws_eqIntS F p0_a p1_b = some r) (w0 : World) (h0 : RdRow w0 p0_av (List.map (Value.int IntKind.i64) p0_a)) (h1 : RdRow w0 p1_bv (List.map (Value.int IntKind.i64) p1_b)) :
    Calls Tryd.prog 54 [p0_av, p1_bv].toArray w0 (retPost fun v w' => v = (Value.bool r) ∧ Mem Nob w0 w' []) := by
  have hM : Mem Nob w0 w0 [(false, rd p0_av (List.map (Value.int IntKind.i64) p0_a)), (false, rd p1_bv (List.map (Value.int IntKind.i64) p1_b))] := (Mem.rcons (Mem.rcons (Mem.nil w0) h1 (by simp)) h0 (by simp))
  refine enter2 Tryd.func54 rfl rfl rfl fun Q a hQr hQn hQp hS => ?_
  have hS : Sl 26 [(0, p0_av), (1, p1_bv)] a := hS
  unfold S_laws_eqIntS at hF
  refine wp_seq_k fun K1 hK1 => ?_
  refine wp_region_lit ?_
  refine st_val hS rfl rfl (by decide) (rv_assign (hS.ev rfl)) fun a hS => ?_
  refine wpList_nil ?_
  refine hK1 _ _ ?_
  refine wp_seq_k fun K2 hK2 => ?_
  refine wp_seq_k fun K5 hK5 => ?_
  refine wp_region_lit ?_
  refine st_val hS rfl rfl (by decide) (rv_move (hS.ev rfl)) fun a hS => ?_
  refine st_val hS rfl rfl (by decide) (rv_len_rowM Tryd.underlying38 (hS.ev rfl) (hM.get 0 rfl)) fun a hS => ?_
  refine st_val hS rfl rfl (by decide) (rv_move (hS.ev rfl)) fun a hS => ?_
  refine st_val hS rfl rfl (by decide) (rv_len_rowM Tryd.underlying38 (hS.ev rfl) (hM.get 1 rfl)) fun a hS => ?_
  refine st_val hS rfl rfl (by decide) (rv_neq (hS.ev rfl) (hS.ev rfl)) fun a hS => ?_
  refine wpList_nil ?_
  refine hK5 _ _ ?_
  rcases ite_some hF with ⟨hc, hF⟩ | ⟨hc, hF⟩
  · refine cond_t hS rfl hc ?_
    refine wp_seq_k fun K6 hK6 => ?_
    refine wp_region_lit ?_
    refine st_val hS rfl rfl (by decide) (rv_assign (hS.ev rfl)) fun a hS => ?_
    refine wpList_nil ?_
    refine hK6 _ _ ?_
    refine wp_ret ?_
    cases hF
    exact hQr _ _ (r_1 hS rfl rfl ⟨rfl, hM.pick [] (by decide) rfl⟩)
  · refine cond_f hS rfl hc ?_
    refine wp_skip ?_
    refine hK2 _ _ ?_
    refine wp_seq_k fun K7 hK7 => ?_
    have hJ1 : ∀ (a : Act) (w : World), Sl 26 [] a → Mem Nob w0 w [] → S_laws_eqIntS_j1 F = some r → K7 a w := by
      intro a w hS hM hF
      unfold S_laws_eqIntS_j1 at hF
      refine hK7 _ _ ?_
      refine wp_seq_k fun K42 hK42 => ?_
      refine wp_region_lit ?_
      refine st_val hS rfl rfl (by decide) (rv_assign (hS.ev rfl)) fun a hS => ?_
      refine wpList_nil ?_
      refine hK42 _ _ ?_
      refine wp_ret ?_
      cases hF
      exact hQr _ _ (r_1 hS rfl rfl ⟨rfl, hM.pick [] (by decide) rfl⟩)
    refine wp_seq_k fun K43 hK43 => ?_
    refine wp_region_lit ?_
    refine st_val hS rfl rfl (by decide) (rv_assign (hS.ev rfl)) fun a hS => ?_
    refine wpList_nil ?_
    refine hK43 _ _ ?_
    refine wp_block ?_
    obtain ⟨lb2, hl2, hF2⟩ := bind_some hF
    refine wp_loop_sh (fun s => S_laws_eqIntS_l2 F p0_a p1_b s) (fun s a w => Sl 26 [(0, p0_av), (1, p1_bv), (5, (Value.int IntKind.i64 s))] a ∧ Mem Nob w0 w [(false, rd p0_av (List.map (Value.int IntKind.i64) p0_a)), (false, rd p1_bv (List.map (Value.int IntKind.i64) p1_b))]) hl2 ⟨(hS.sub (sub_cons rfl (sub_cons rfl (sub_cons rfl sub_nil)))), (hM.pick [0, 1] (by decide) rfl)⟩ ?_
    rintro K2 x44 a w res2 ⟨hS, hM⟩ hF hN2 hX2
    have hF : S_laws_eqIntS_l2 F p0_a p1_b x44 = some res2 := hF
    have hS : Sl 26 [(0, p0_av), (1, p1_bv), (5, (Value.int IntKind.i64 x44))] a := hS
    have hM : Mem Nob w0 w [(false, rd p0_av (List.map (Value.int IntKind.i64) p0_a)), (false, rd p1_bv (List.map (Value.int IntKind.i64) p1_b))] := hM
    unfold S_laws_eqIntS_l2 at hF
    refine wp_seq_k fun K61 hK61 => ?_
    refine wp_seq_k fun K63 hK63 => ?_
    refine wp_region_lit ?_
    refine st_val hS rfl rfl (by decide) (rv_move (hS.ev rfl)) fun a hS => ?_
    refine st_val hS rfl rfl (by decide) (rv_move (hS.ev rfl)) fun a hS => ?_
    refine st_val hS rfl rfl (by decide) (rv_len_rowM Tryd.underlying38 (hS.ev rfl) (hM.get 0 rfl)) fun a hS => ?_
    refine st_val hS rfl rfl (by decide) (rv_lss (hS.ev rfl) (hS.ev rfl)) fun a hS => ?_
    refine wpList_nil ?_
    refine hK63 _ _ ?_
    rcases ite_some hF with ⟨hc, hF⟩ | ⟨hc, hF⟩
    · refine cond_t hS rfl hc ?_
      refine wp_skip ?_
      refine hK61 _ _ ?_
      refine wp_seq_k fun K64 hK64 => ?_
      refine wp_block ?_
      refine wp_seq_k fun K71 hK71 => ?_
      refine an_start Nob ty_mixed fun w hf => ?_
      have hM := hM.fra hf
      have hB := hM
      have hM := hB.reg0
      refine an_take hS (i := 0) rfl (by kernel_rfl) (by kernel_rfl) (by kernel_rfl) rfl (by decide) (fun c a a' w hd h => hQp c a a' w hd h) rfl (fun w' hC' => (rv_move (hS.ev rfl))) hM.fr fun a hS => ?_
      refine an_take hS (i := 1) rfl (by kernel_rfl) (by kernel_rfl) (by kernel_rfl) rfl (by decide) (fun c a a' w hd h => hQp c a a' w hd h) rfl (fun w' hC' => (rv_move (hS.ev rfl))) hM.fr fun a hS => ?_
      obtain ⟨x74, hx, hF⟩ := bind_some hF
      obtain ⟨hi0, hi1, hex74⟩ := idxL_some hx
      refine an_take hS (i := 2) rfl (by kernel_rfl) (by kernel_rfl) (by kernel_rfl) rfl (by decide) (fun c a a' w hd h => hQp c a a' w hd h) rfl (fun w' hC' => (rv_indexAddr Tryd.underlying38 ty_el_3 (hS.ev rfl) (hS.ev rfl) (hM.get 0 rfl) hi0 (map_len hi1))) hM.fr fun a hS => ?_
      refine an_take hS (i := 3) rfl (by kernel_rfl) (by kernel_rfl) (by kernel_rfl) rfl (by decide) (fun c a a' w hd h => hQp c a a' w hd h) rfl (fun w' hC' => (rv_load_el (hS.ev rfl) ty_ag_3 ((hB.fra hC').get 0 rfl) (mget hex74))) hM.fr fun a hS => ?_
      refine an_take hS (i := 4) rfl (by kernel_rfl) (by kernel_rfl) (by kernel_rfl) rfl (by decide) (fun c a a' w hd h => hQp c a a' w hd h) rfl (fun w' hC' => (rv_move (hS.ev rfl))) hM.fr fun a hS => ?_
      refine an_take hS (i := 5) rfl (by kernel_rfl) (by kernel_rfl) (by kernel_rfl) rfl (by decide) (fun c a a' w hd h => hQp c a a' w hd h) rfl (fun w' hC' => (rv_move (hS.ev rfl))) hM.fr fun a hS => ?_
      obtain ⟨x75, hx, hF⟩ := bind_some hF
      obtain ⟨hi0, hi1, hex75⟩ := idxL_some hx
      refine an_take hS (i := 6) rfl (by kernel_rfl) (by kernel_rfl) (by kernel_rfl) rfl (by decide) (fun c a a' w hd h => hQp c a a' w hd h) rfl (fun w' hC' => (rv_indexAddr Tryd.underlying38 ty_el_3 (hS.ev rfl) (hS.ev rfl) (hM.get 1 rfl) hi0 (map_len hi1))) hM.fr fun a hS => ?_
      refine an_take hS (i := 7) rfl (by kernel_rfl) (by kernel_rfl) (by kernel_rfl) rfl (by decide) (fun c a a' w hd h => hQp c a a' w hd h) rfl (fun w' hC' => (rv_load_el (hS.ev rfl) ty_ag_3 ((hB.fra hC').get 1 rfl) (mget hex75))) hM.fr fun a hS => ?_
      refine an_take hS (i := 8) rfl (by kernel_rfl) (by kernel_rfl) (by kernel_rfl) rfl (by decide) (fun c a a' w hd h => hQp c a a' w hd h) rfl (fun w' hC' => (rv_neq (hS.ev rfl) (hS.ev rfl))) hM.fr fun a hS => ?_
      refine an_done (by kernel_rfl) ?_
      have hN := hM.pick [] (by decide) rfl
      have hM := Mem.callo (A := []) (B := [(false, rd p0_av (List.map (Value.int IntKind.i64) p0_a)), (false, rd p1_bv (List.map (Value.int IntKind.i64) p1_b))]) hB rfl (hN.memS fun _ h => h.elim) rfl
      refine hK71 _ _ ?_
      rcases ite_some hF with ⟨hc, hF⟩ | ⟨hc, hF⟩
      · refine cond_t hS rfl hc ?_
        refine wp_seq_k fun K76 hK76 => ?_
        refine wp_region_lit ?_
        refine st_val hS rfl rfl (by decide) (rv_assign (hS.ev rfl)) fun a hS => ?_
        refine wpList_nil ?_
        refine hK76 _ _ ?_
        refine wp_ret ?_
        cases hF
        have e := hX2 _ rfl
        subst e
        have hF := hF2
        cases hF
        exact hQr _ _ (r_1 hS rfl rfl ⟨rfl, hM.pick [] (by decide) rfl⟩)
      · refine cond_f hS rfl hc ?_
        refine wp_skip ?_
        refine hK64 _ _ ?_
        refine wp_region_lit ?_
        refine st_val hS rfl rfl (by decide) (rv_move (hS.ev rfl)) fun a hS => ?_
        refine st_val hS rfl rfl (by decide) (rv_add (hS.ev rfl) (hS.ev rfl)) fun a hS => ?_
        refine st_val hS rfl rfl (by decide) (rv_assign (hS.ev rfl)) fun a hS => ?_
        refine wpList_nil ?_
        cases hF
        exact hN2 _ _ _ rfl ⟨(hS.sub (sub_cons rfl (sub_cons rfl (sub_cons rfl sub_nil)))), (hM.pick [0, 1] (by decide) rfl)⟩
    · refine cond_f hS rfl hc ?_
      refine wp_exit ?_
      cases hF
      exact hJ1 _ _ (hS.sub sub_nil) (hM.pick [] (by decide) rfl) (by have e := hX2 _ rfl; subst e; exact hF2)


theorem c_laws_eqGraph (F : Nat) (p0_a_Size : Int) (p0_a_Rows : List Int) (p1_b_Size : Int) (p1_b_Rows : List Int) (p0_a_Rowsv : Value) (p1_b_Rowsv : Value) {r : Bool} (hF : S_laws_eqGraph F p0_a_Size p0_a_Rows p1_b_Size p1_b_Rows = some r) (w0 : World) (h0 : RdRow w0 p0_a_Rowsv (List.map (Value.int IntKind.i64) p0_a_Rows)) (h1 : RdRow w0 p1_b_Rowsv (List.map (Value.int IntKind.i64) p1_b_Rows)) :
    Calls Tryd.prog 29 [(Value.agg #[(Value.int IntKind.i64 p0_a_Size), p0_a_Rowsv]), (Value.agg #[(Value.int IntKind.i64 p1_b_Size), p1_b_Rowsv])].toArray w0 (retPost fun v w' => v = (Value.bool r) ∧ Mem Nob w0 w' []) := by
  have hM : Mem Nob w0 w0 [(false, rd p0_a_Rowsv (List.map (Value.int IntKind.i64) p0_a_Rows)), (false, rd p1_b_Rowsv (List.map (Value.int IntKind.i64) p1_b_Rows))] := (Mem.rcons (Mem.rcons (Mem.nil w0) h1 (by simp)) h0 (by simp))
  refine enter2 Tryd.func29 rfl rfl rfl fun Q a hQr hQn hQp hS => ?_
  have hS : Sl 16 [(0, (Value.agg #[(Value.int IntKind.i64 p0_a_Size), p0_a_Rowsv])), (1, (Value.agg #[(Value.int IntKind.i64 p1_b_Size), p1_b_Rowsv]))] a := hS
  unfold S_laws_eqGraph at hF
  refine wp_seq_k fun K1 hK1 => ?_
  refine wp_region_lit ?_
  obtain ⟨b4, w, hr, hM⟩ := hM.boxE (ρ := a.eval) (dst := some 2) (ty := _) (pos := _) (af := _) (gd := _) (x := .tmp 0) (T := 43) [(Value.int IntKind.i64 p0_a_Size), p0_a_Rowsv] (hS.ev rfl) rfl
  refine st_val hS rfl rfl (by decide) hr fun a hS => ?_
  obtain ⟨b5, w, hr, hM⟩ := hM.boxE (ρ := a.eval) (dst := some 3) (ty := _) (pos := _) (af := _) (gd := _) (x := .tmp 1) (T := 43) [(Value.int IntKind.i64 p1_b_Size), p1_b_Rowsv] (hS.ev rfl) rfl
  refine st_val hS rfl rfl (by decide) hr fun a hS => ?_
  refine st_val hS rfl rfl (by decide) (rv_assign (hS.ev rfl)) fun a hS => ?_
  refine wpList_nil ?_
  refine hK1 _ _ ?_
  refine wp_seq_k fun K6 hK6 => ?_
  refine wp_seq_k fun K9 hK9 => ?_
  refine wp_region_lit ?_
  refine st_val hS rfl rfl (by decide) (rv_fieldAddr ty_fd_43_0 (hS.ev rfl)) fun a hS => ?_
  refine st_val hS rfl rfl (by decide) (rv_load_bx (hS.ev rfl) ty_ag_3 (hM.get 1 rfl) rfl) fun a hS => ?_
  refine st_val hS rfl rfl (by decide) (rv_fieldAddr ty_fd_43_0 (hS.ev rfl)) fun a hS => ?_
  refine st_val hS rfl rfl (by decide) (rv_load_bx (hS.ev rfl) ty_ag_3 (hM.get 0 rfl) rfl) fun a hS => ?_
  refine st_val hS rfl rfl (by decide) (rv_neq (hS.ev rfl) (hS.ev rfl)) fun a hS => ?_
  refine wpList_nil ?_
  refine hK9 _ _ ?_
  rcases ite_some hF with ⟨hc, hF⟩ | ⟨hc, hF⟩
  · refine cond_t hS rfl hc ?_
    refine wp_seq_k fun K10 hK10 => ?_
    refine wp_region_lit ?_
    refine st_val hS rfl rfl (by decide) (rv_assign (hS.ev rfl)) fun a hS => ?_
    refine wpList_nil ?_
    refine hK10 _ _ ?_
    refine wp_ret ?_
    cases hF
    exact hQr _ _ (r_1 hS rfl rfl ⟨rfl, hM.pick [] (by decide) rfl⟩)
  · refine cond_f hS rfl hc ?_
    refine wp_skip ?_
    refine hK6 _ _ ?_
    refine wp_seq_k fun K11 hK11 => ?_
    refine wp_seq_k fun K16 hK16 => ?_
    refine wp_region_lit ?_
    refine st_val hS rfl rfl (by decide) (rv_fieldAddr ty_fd_43_1 (hS.ev rfl)) fun a hS => ?_
    refine st_val hS rfl rfl (by decide) (rv_load_bx (hS.ev rfl) ty_ag_38 (hM.get 1 rfl) rfl) fun a hS => ?_
    refine st_val hS rfl rfl (by decide) (rv_fieldAddr ty_fd_43_1 (hS.ev rfl)) fun a hS => ?_
    refine st_val hS rfl rfl (by decide) (rv_load_bx (hS.ev rfl) ty_ag_38 (hM.get 0 rfl) rfl) fun a hS => ?_
    obtain ⟨r18, hr, hF⟩ := bind_some hF
    refine st_wp hS rfl (wp_call hS rfl rfl (by decide) fn_ok_54 rfl (c_laws_eqIntS F p0_a_Rows p1_b_Rows p0_a_Rowsv p1_b_Rowsv hr _ (hM.get 2 rfl) (hM.get 3 rfl)) fun v w a hK hS => ?_)
    obtain ⟨rfl, hN⟩ := hK
    have hM := hM.fra hN.fr
    refine st_val hS rfl rfl (by decide) (rv_not (hS.ev rfl)) fun a hS => ?_
    refine wpList_nil ?_
    refine hK16 _ _ ?_
    rcases ite_some hF with ⟨hc, hF⟩ | ⟨hc, hF⟩
    · refine cond_t hS rfl hc ?_
      refine wp_seq_k fun K19 hK19 => ?_
      refine wp_region_lit ?_
      refine st_val hS rfl rfl (by decide) (rv_assign (hS.ev rfl)) fun a hS => ?_
      refine wpList_nil ?_
      refine hK19 _ _ ?_
      refine wp_ret ?_
      cases hF
      exact hQr _ _ (r_1 hS rfl rfl ⟨rfl, hM.pick [] (by decide) rfl⟩)
    · refine cond_f hS rfl hc ?_
      refine wp_skip ?_
      refine hK11 _ _ ?_
      refine wp_seq_k fun K20 hK20 => ?_
      refine wp_region_lit ?_
      refine st_val hS rfl rfl (by decide) (rv_assign (hS.ev rfl)) fun a hS => ?_
      refine wpList_nil ?_
      refine hK20 _ _ ?_
      refine wp_ret ?_
      cases hF
      exact hQr _ _ (r_1 hS rfl rfl ⟨rfl, hM.pick [] (by decide) rfl⟩)


theorem c_laws_FnExactFormatGraph (F : Nat) (p0_aG_Size : Int) (p0_aG_Rows : List Int) (p0_aG_Rowsv : Value) {r : Bool} (hF : S_laws_FnExactFormatGraph F p0_aG_Size p0_aG_Rows = some r) (w0 : World) (h0 : RdRow w0 p0_aG_Rowsv (List.map (Value.int IntKind.i64) p0_aG_Rows)) (h1 : (tabR Tryd.prog tabN).P w0) :
    Calls Tryd.prog 6 [(Value.agg #[(Value.int IntKind.i64 p0_aG_Size), p0_aG_Rowsv])].toArray w0 (retPost fun v w' => v = (Value.bool r) ∧ Mem Nob w0 w' []) := by
  have hM : Mem Nob w0 w0 [(false, rd p0_aG_Rowsv (List.map (Value.int IntKind.i64) p0_aG_Rows)), (false, tabR Tryd.prog tabN)] := (Mem.rcons (Mem.gcons (Mem.nil w0) h1 (by simp)) h0 (by simp))
  refine enter2 Tryd.func6 rfl rfl rfl fun Q a hQr hQn hQp hS => ?_
  have hS : Sl 27 [(0, (Value.agg #[(Value.int IntKind.i64 p0_aG_Size), p0_aG_Rowsv]))] a := hS
  unfold S_laws_FnExactFormatGraph at hF
  refine wp_seq_k fun K1 hK1 => ?_
  refine wp_region_lit ?_
  obtain ⟨b3, w, hr, hM⟩ := hM.boxE (ρ := a.eval) (dst := some 1) (ty := _) (pos := _) (af := _) (gd := _) (x := .tmp 0) (T := 40) [(Value.int IntKind.i64 p0_aG_Size), p0_aG_Rowsv] (hS.ev rfl) rfl
  refine st_val hS rfl rfl (by decide) hr fun a hS => ?_
  refine st_val hS rfl rfl (by decide) (rv_assign (hS.ev rfl)) fun a hS => ?_
  refine wpList_nil ?_
  refine hK1 _ _ ?_
  refine wp_seq_k fun K4 hK4 => ?_
  refine wp_region_lit ?_
  refine st_val hS rfl rfl (by decide) (rv_assign (hS.ev rfl)) fun a hS => ?_
  refine wpList_nil ?_
  refine hK4 _ _ ?_
  refine wp_seq_k fun K5 hK5 => ?_
  refine wp_region_lit ?_
  refine st_val hS rfl rfl (by decide) (rv_load_agg (hS.ev rfl) ty_ag_40 (hM.get 0 rfl) ty_sz_40) fun a hS => ?_
  refine st_val hS rfl rfl (by decide) (rv_move (hS.ev rfl)) fun a hS => ?_
  obtain ⟨r7, hr, hF⟩ := bind_some hF
  refine st_wp hS rfl (wp_call hS rfl rfl (by decide) fn_ok_25 rfl (c_laws_szGraph F p0_aG_Size p0_aG_Rows 1048576 p0_aG_Rowsv hr _ (hM.get 1 rfl)) fun v w a hK hS => ?_)
  obtain ⟨rfl, hN⟩ := hK
  have hM := hM.fra hN.fr
  refine st_val hS rfl rfl (by decide) (rv_assign (hS.ev rfl)) fun a hS => ?_
  refine wpList_nil ?_
  refine hK5 _ _ ?_
  refine wp_seq_k fun K8 hK8 => ?_
  refine wp_seq_k fun K11 hK11 => ?_
  refine wp_region_lit ?_
  refine st_val hS rfl rfl (by decide) (rv_move (hS.ev rfl)) fun a hS => ?_
  refine st_val hS rfl rfl (by decide) (rv_lss (hS.ev rfl) (hS.ev rfl)) fun a hS => ?_
  refine wpList_nil ?_
  refine hK11 _ _ ?_
  rcases ite_some hF with ⟨hc, hF⟩ | ⟨hc, hF⟩
  · refine cond_t hS rfl hc ?_
    refine wp_seq_k fun K12 hK12 => ?_
    refine wp_region_lit ?_
    refine st_val hS rfl rfl (by decide) (rv_assign (hS.ev rfl)) fun a hS => ?_
    refine wpList_nil ?_
    refine hK12 _ _ ?_
    refine wp_ret ?_
    cases hF
    exact hQr _ _ (r_1 hS rfl rfl ⟨rfl, hM.pick [] (by decide) rfl⟩)
  · refine cond_f hS rfl hc ?_
    refine wp_skip ?_
    refine hK8 _ _ ?_
    refine wp_seq_k fun K13 hK13 => ?_
    refine wp_region_lit ?_
    refine st_val hS rfl rfl (by decide) (rv_load_agg (hS.ev rfl) ty_ag_40 (hM.get 0 rfl) ty_sz_40) fun a hS => ?_
    obtain ⟨r17, hr, hF⟩ := bind_some hF
    refine st_wp hS rfl (wp_call hS rfl rfl (by decide) fn_ok_27 rfl (c_laws_toGraph F p0_aG_Size p0_aG_Rows p0_aG_Rowsv hr _ (hM.get 1 rfl)) fun v w a hK hS => ?_)
    obtain ⟨v18, rfl, hN⟩ := hK
    have hM := hM.add hN rfl
    obtain ⟨r19, hr, hF⟩ := bind_some hF
    refine st_wp hS rfl (wp_call hS rfl rfl (by decide) fn_ok_26 rfl (c_spec_FormatGraph F r17.1 r17.2 v18 hr _ (rd_of_ow (hM.get 0 rfl))) fun v w a hK hS => ?_)
    obtain ⟨rfl, hN⟩ := hK
    have hM := hM.fra hN.fr
    refine st_val hS rfl rfl (by decide) (rv_assign (hS.ev rfl)) fun a hS => ?_
    refine wpList_nil ?_
    refine hK13 _ _ ?_
    refine wp_seq_k fun K20 hK20 => ?_
    refine wp_region_lit ?_
    refine st_val hS rfl rfl (by decide) (rv_load_agg (hS.ev rfl) ty_ag_40 (hM.get 1 rfl) ty_sz_40) fun a hS => ?_
    obtain ⟨r24, hr, hF⟩ := bind_some hF
    refine st_wp hS rfl (wp_call hS rfl rfl (by decide) fn_ok_27 rfl (c_laws_toGraph F p0_aG_Size p0_aG_Rows p0_aG_Rowsv hr _ (hM.get 2 rfl)) fun v w a hK hS => ?_)
    obtain ⟨v25, rfl, hN⟩ := hK
    have hM := hM.add hN rfl
    obtain ⟨b26, w, hr, hM⟩ := hM.allocE (ρ := a.eval) (dst := some 5) (ty := _) (pos := _) (af := _) (gd := _) (T := 43) (P := Tryd.prog) [(Value.int IntKind.i64 0), (Value.slice none 0 0)] ty_zr_43 rfl
    refine st_val hS rfl rfl (by decide) hr fun a hS => ?_
    have hM := hM.addNil 3
    have hM := hM.pick [1, 0, 2, 3, 4, 5, 6] (by decide) rfl
    obtain ⟨w, hr, hM⟩ := hM.st_agg (us := [(Value.int IntKind.i64 r24.1), v25]) (ρ := a.eval) (dst := none) (ty := _) (pos := _) (af := _) (gd := _) (x := .tmp 5) (y := .tmp 16) (hS.ev rfl) (hS.ev rfl) ty_sz_43 (all1_cons rfl (all1_cons (rd_one (rd_of_ow (hM.get 2 rfl))) all1_nil)) rfl
    refine st_unit hS rfl rfl hr ?_
    refine wpList_nil ?_
    refine hK20 _ _ ?_
    refine wp_seq_k fun K27 hK27 => ?_
    refine wp_region_lit ?_
    refine st_val hS rfl rfl (by decide) (rv_load_agg (hS.ev rfl) ty_ag_43 (hM.get 0 rfl) ty_sz_43) fun a hS => ?_
    obtain ⟨r29, hr, hF⟩ := bind_some hF
    refine st_wp hS rfl (wp_call hS rfl rfl (by decide) fn_ok_28 rfl (c_impl_FormatGraph F r24.1 r24.2 v25 hr _ (rd_of_ow (hM.get 2 rfl)) (hM.get 6 rfl)) fun v w a hK hS => ?_)
    obtain ⟨rfl, hN⟩ := hK
    have hM := hM.fra hN.fr
    refine st_val hS rfl rfl (by decide) (rv_assign (hS.ev rfl)) fun a hS => ?_
    refine wpList_nil ?_
    refine hK27 _ _ ?_
    refine wp_seq_k fun K30 hK30 => ?_
    refine wp_seq_k fun K33 hK33 => ?_
    refine wp_region_lit ?_
    refine st_val hS rfl rfl (by decide) (rv_move (hS.ev rfl)) fun a hS => ?_
    refine st_val hS rfl rfl (by decide) (rv_move (hS.ev rfl)) fun a hS => ?_
    refine st_val hS rfl rfl (by decide) (rv_str_neq (hS.ev rfl) (hS.ev rfl)) fun a hS => ?_
    refine wpList_nil ?_
    refine hK33 _ _ ?_
    rcases ite_some hF with ⟨hc, hF⟩ | ⟨hc, hF⟩
    · refine cond_t hS rfl hc ?_
      refine wp_seq_k fun K34 hK34 => ?_
      refine wp_region_lit ?_
      refine st_val hS rfl rfl (by decide) (rv_assign (hS.ev rfl)) fun a hS => ?_
      refine wpList_nil ?_
      refine hK34 _ _ ?_
      refine wp_ret ?_
      cases hF
      exact hQr _ _ (r_1 hS rfl rfl ⟨rfl, hM.pick [] (by decide) rfl⟩)
    · refine cond_f hS rfl hc ?_
      refine wp_skip ?_
      refine hK30 _ _ ?_
      refine wp_seq_k fun K35 hK35 => ?_
      refine wp_seq_k fun K44 hK44 => ?_
      refine an_start Nob ty_mixed fun w hf => ?_
      have hM := hM.fra hf
      have hB := hM
      have hM := hB.reg0
      refine an_take hS (i := 0) rfl (by kernel_rfl) (by kernel_rfl) (by kernel_rfl) rfl (by decide) (fun c a a' w hd h => hQp c a a' w hd h) rfl (fun w' hC' => (rv_load_agg (hS.ev rfl) ty_ag_43 ((hB.fra hC').get 0 rfl) ty_sz_43)) hM.fr fun a hS => ?_
      refine an_take hS (i := 1) rfl (by kernel_rfl) (by kernel_rfl) (by kernel_rfl) rfl (by decide) (fun c a a' w hd h => hQp c a a' w hd h) rfl (fun w' hC' => (rv_load_agg (hS.ev rfl) ty_ag_40 ((hB.fra hC').get 4 rfl) ty_sz_40)) hM.fr fun a hS => ?_
      obtain ⟨r48, hr, hF⟩ := bind_some hF
      refine an_one hS (i := 2) rfl (by kernel_rfl) rfl ?_
      refine wp_call hS rfl rfl (by decide) fn_ok_27 rfl (c_laws_toGraph F p0_aG_Size p0_aG_Rows p0_aG_Rowsv hr _ (hM.get 5 rfl)) fun v w a hK hS => ?_
      obtain ⟨v49, rfl, hN⟩ := hK
      have hM := hM.add hN rfl
      refine ⟨hM.fr, ?_⟩
      obtain ⟨r50, hr, hF⟩ := bind_some hF
      refine an_one hS (i := 3) rfl (by kernel_rfl) rfl ?_
      refine wp_call hS rfl rfl (by decide) fn_ok_29 rfl (c_laws_eqGraph F r24.1 r24.2 r48.1 r48.2 v25 v49 hr _ (rd_of_ow (hM.get 3 rfl)) (rd_of_ow (hM.get 0 rfl))) fun v w a hK hS => ?_
      obtain ⟨rfl, hN⟩ := hK
      have hM := hM.fra hN.fr
      refine ⟨hM.fr, ?_⟩
      refine an_take hS (i := 4) rfl (by kernel_rfl) (by kernel_rfl) (by kernel_rfl) rfl (by decide) (fun c a a' w hd h => hQp c a a' w hd h) rfl (fun w' hC' => (rv_not (hS.ev rfl))) hM.fr fun a hS => ?_
      refine an_done (by kernel_rfl) ?_
      have hN := hM.pick [0] (by decide) rfl
      have hM := Mem.callo (A := []) (B := [(true, bx b26 43 [(Value.int IntKind.i64 r24.1), v25]), (true, ow 3 (Value.slice none 0 0) (List.map (Value.int IntKind.i64) ([] : List (Int)))), (true, ow 3 v25 (List.map (Value.int IntKind.i64) r24.2)), (true, ow 3 v18 (List.map (Value.int IntKind.i64) r17.2)), (true, bx b3 40 [(Value.int IntKind.i64 p0_aG_Size), p0_aG_Rowsv]), (false, rd p0_aG_Rowsv (List.map (Value.int IntKind.i64) p0_aG_Rows)), (false, tabR Tryd.prog tabN)]) hB rfl (hN.memS fun _ h => h.elim) rfl
      refine hK44 _ _ ?_
      rcases ite_some hF with ⟨hc, hF⟩ | ⟨hc, hF⟩
      · refine cond_t hS rfl hc ?_
        refine wp_seq_k fun K51 hK51 => ?_
        refine wp_region_lit ?_
        refine st_val hS rfl rfl (by decide) (rv_assign (hS.ev rfl)) fun a hS => ?_
        refine wpList_nil ?_
        refine hK51 _ _ ?_
        refine wp_ret ?_
        cases hF
        exact hQr _ _ (r_1 hS rfl rfl ⟨rfl, hM.pick [] (by decide) rfl⟩)
      · refine cond_f hS rfl hc ?_
        refine wp_skip ?_
        refine hK35 _ _ ?_
        refine wp_seq_k fun K52 hK52 => ?_
        refine wp_region_lit ?_
        refine st_val hS rfl rfl (by decide) (rv_assign (hS.ev rfl)) fun a hS => ?_
        refine wpList_nil ?_
        refine hK52 _ _ ?_
        refine wp_ret ?_
        cases hF
        exact hQr _ _ (r_1 hS rfl rfl ⟨rfl, hM.pick [] (by decide) rfl⟩)


end Go.Proofs.YtgddopammpjkgaaDoor
