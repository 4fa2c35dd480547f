/- Proved here: that each Go function does what its shallow function says -/
import Derived.Test.YtgddopammpjkgaaDoorSh
import Derived.Test.YtgddopammpjkgaaDoorTy
import Derived.Test.YtgddopammpjkgaaDoorK11
import Derived.Test.YtgddopammpjkgaaDoorKS
import Derived.Test.YtgddopammpjkgaaDoorW0
import Derived.Test.YtgddopammpjkgaaDoorW1
namespace Go.Proofs.YtgddopammpjkgaaDoor
open Go Go.RowKit
set_option linter.unusedVariables false
set_option linter.unusedSimpArgs false
set_option maxRecDepth 100000
set_option maxHeartbeats 4000000

theorem c_spec_l3Fine (F : Nat) (p0_set : Int) {r : Bool} (hF : S_spec_l3Fine F p0_set = some r) (w0 : World) :
    Calls Tryd.prog 45 [(Value.int IntKind.i64 p0_set)].toArray w0 (retPost fun v w' => v = (Value.bool r) ∧ Mem Nob w0 w' []) := by
  have hM : Mem Nob w0 w0 [] := (Mem.nil w0)
  refine enter2 Tryd.func45 rfl rfl rfl fun Q a hQr hQn hQp hS => ?_
  have hS : Sl 5 [(0, (Value.int IntKind.i64 p0_set))] a := hS
  unfold S_spec_l3Fine at hF
  refine wp_seq_k fun K1 hK1 => ?_
  refine wp_region_lit ?_
  refine st_val hS rfl rfl (by decide) (rv_assign (hS.ev rfl)) fun a hS => ?_
  refine wpList_nil ?_
  refine hK1 _ _ ?_
  refine wp_seq_k fun K2 hK2 => ?_
  refine wp_region_lit ?_
  refine st_val hS rfl rfl (by decide) (rv_move (hS.ev rfl)) fun a hS => ?_
  obtain ⟨r4, hr, hF⟩ := bind_some hF
  refine st_wp hS rfl (wp_call hS rfl rfl (by decide) fn_ok_40 rfl (c_spec_l1In F p0_set 0 127 hr _) fun v w a hK hS => ?_)
  obtain ⟨rfl, hN⟩ := hK
  have hM := hM.fra hN.fr
  refine st_val hS rfl rfl (by decide) (rv_assign (hS.ev rfl)) fun a hS => ?_
  refine wpList_nil ?_
  refine hK2 _ _ ?_
  refine wp_ret ?_
  cases hF
  exact hQr _ _ (r_1 hS rfl rfl ⟨rfl, hM.pick [] (by decide) rfl⟩)


theorem c_spec_ListOf (F : Nat) (p0_set : Int) {r : (List (Int))} (hF : S_spec_ListOf F p0_set = some r) (w0 : World) :
    Calls Tryd.prog 44 [(Value.int IntKind.i64 p0_set)].toArray w0 (retPost fun v w' => Mem Nob w0 w' [(true, ow 3 v (List.map (Value.int IntKind.i64) r))]) := by
  have hM : Mem Nob w0 w0 [] := (Mem.nil w0)
  refine enter2 Tryd.func44 rfl rfl rfl fun Q a hQr hQn hQp hS => ?_
  have hS : Sl 24 [(0, (Value.int IntKind.i64 p0_set))] a := hS
  unfold S_spec_ListOf at hF
  refine wp_seq_k fun K1 hK1 => ?_
  refine wp_region_lit ?_
  refine st_val hS rfl rfl (by decide) (rv_assign (hS.ev rfl)) fun a hS => ?_
  refine wpList_nil ?_
  refine hK1 _ _ ?_
  refine wp_seq_k fun K2 hK2 => ?_
  refine wp_region_lit ?_
  obtain ⟨v4, w, hr, hM⟩ := Mem.litE (f := (Value.int IntKind.i64)) (dst := some 5) (ty := _) (pos := _) (af := _) (gd := _) (ps := []) ([] : List (Int)) i64_one hM hS Tryd.underlying38 ty_el_3 rfl rfl rfl rfl
  refine st_val hS rfl rfl (by decide) hr fun a hS => ?_
  refine st_val hS rfl rfl (by decide) (rv_assign (hS.ev rfl)) fun a hS => ?_
  refine wpList_nil ?_
  refine hK2 _ _ ?_
  refine wp_seq_k fun K5 hK5 => ?_
  have hJ1 : ∀ (l47 : List Int) (v46 : Value) (a : Act) (w : World), Sl 24 [(3, v46)] a → Mem Nob w0 w [(true, ow 3 v46 (List.map (Value.int IntKind.i64) l47))] → S_spec_ListOf_j1 F l47 = some r → K5 a w := by
    intro l47 v46 a w hS hM hF
    unfold S_spec_ListOf_j1 at hF
    refine hK5 _ _ ?_
    refine wp_seq_k fun K48 hK48 => ?_
    refine wp_region_lit ?_
    refine st_val hS rfl rfl (by decide) (rv_move (hS.ev rfl)) fun a hS => ?_
    refine st_val hS rfl rfl (by decide) (rv_assign (hS.ev rfl)) fun a hS => ?_
    refine wpList_nil ?_
    refine hK48 _ _ ?_
    refine wp_ret ?_
    cases hF
    exact hQr _ _ (r_1 hS rfl rfl (hM.pick [0] (by decide) rfl))
  refine wp_seq_k fun K49 hK49 => ?_
  refine wp_region_lit ?_
  refine st_val hS rfl rfl (by decide) (rv_assign (hS.ev rfl)) fun a hS => ?_
  refine wpList_nil ?_
  refine hK49 _ _ ?_
  refine wp_block ?_
  obtain ⟨lb2, hl2, hF2⟩ := bind_some hF
  refine wp_loop_sh (fun s => S_spec_ListOf_l2 F p0_set s.1 s.2) (fun s a w => ∃ (v50 : Value), Sl 24 [(0, (Value.int IntKind.i64 p0_set)), (3, v50), (4, (Value.int IntKind.i64 s.2))] a ∧ Mem Nob w0 w [(true, ow 3 v50 (List.map (Value.int IntKind.i64) s.1))]) hl2 ⟨v4, (hS.sub (sub_cons rfl (sub_cons rfl (sub_cons rfl sub_nil)))), (hM.pick [0] (by decide) rfl)⟩ ?_
  rintro K2 ⟨l51, x52⟩ a w res2 ⟨v50, hS, hM⟩ hF hN2 hX2
  have hF : S_spec_ListOf_l2 F p0_set l51 x52 = some res2 := hF
  have hS : Sl 24 [(0, (Value.int IntKind.i64 p0_set)), (3, v50), (4, (Value.int IntKind.i64 x52))] a := hS
  have hM : Mem Nob w0 w [(true, ow 3 v50 (List.map (Value.int IntKind.i64) l51))] := hM
  unfold S_spec_ListOf_l2 at hF
  refine wp_seq_k fun K71 hK71 => ?_
  refine wp_seq_k fun K76 hK76 => ?_
  have hJ3 : ∀ (p78 : Bool) (a : Act) (w : World), Sl 24 [(0, (Value.int IntKind.i64 p0_set)), (3, v50), (4, (Value.int IntKind.i64 x52)), (11, (Value.bool p78))] a → Mem Nob w0 w [(true, ow 3 v50 (List.map (Value.int IntKind.i64) l51))] → S_spec_ListOf_j3 F p0_set l51 x52 p78 = some res2 → K76 a w := by
    intro p78 a w hS hM hF
    unfold S_spec_ListOf_j3 at hF
    refine hK76 _ _ ?_
    rcases ite_some hF with ⟨hc, hF⟩ | ⟨hc, hF⟩
    · refine cond_t hS rfl hc ?_
      refine wp_skip ?_
      refine hK71 _ _ ?_
      refine wp_seq_k fun K79 hK79 => ?_
      have hJ4 : ∀ (l84 : List Int) (v83 : Value) (a : Act) (w : World), Sl 24 [(0, (Value.int IntKind.i64 p0_set)), (3, v83), (4, (Value.int IntKind.i64 x52))] a → Mem Nob w0 w [(true, ow 3 v83 (List.map (Value.int IntKind.i64) l84))] → S_spec_ListOf_j4 F x52 l84 = some res2 → K79 a w := by
        intro l84 v83 a w hS hM hF
        unfold S_spec_ListOf_j4 at hF
        refine hK79 _ _ ?_
        refine wp_region_lit ?_
        refine st_val hS rfl rfl (by decide) (rv_move (hS.ev rfl)) fun a hS => ?_
        refine st_val hS rfl rfl (by decide) (rv_add (hS.ev rfl) (hS.ev rfl)) fun a hS => ?_
        refine st_val hS rfl rfl (by decide) (rv_assign (hS.ev rfl)) fun a hS => ?_
        refine wpList_nil ?_
        cases hF
        exact hN2 _ _ _ rfl ⟨v83, (hS.sub (sub_cons rfl (sub_cons rfl (sub_cons rfl sub_nil)))), (hM.pick [0] (by decide) rfl)⟩
      refine wp_block ?_
      refine wp_seq_k fun K85 hK85 => ?_
      refine wp_region_lit ?_
      refine st_val hS rfl rfl (by decide) (rv_move (hS.ev rfl)) fun a hS => ?_
      refine st_val hS rfl rfl (by decide) (rv_move (hS.ev rfl)) fun a hS => ?_
      obtain ⟨_, hx, hF⟩ := bind_some hF
      have hi0 := nnO_some hx
      refine st_val hS rfl rfl (by decide) (rv_shr (hS.ev rfl) (hS.ev rfl) hi0) fun a hS => ?_
      refine st_val hS rfl rfl (by decide) (rv_and (hS.ev rfl) (hS.ev rfl)) fun a hS => ?_
      refine st_val hS rfl rfl (by decide) (rv_eql (hS.ev rfl) (hS.ev rfl)) fun a hS => ?_
      refine wpList_nil ?_
      refine hK85 _ _ ?_
      rcases ite_some hF with ⟨hc, hF⟩ | ⟨hc, hF⟩
      · refine cond_t hS rfl hc ?_
        refine wp_region_lit ?_
        refine st_val hS rfl rfl (by decide) (rv_move (hS.ev rfl)) fun a hS => ?_
        refine st_val hS rfl rfl (by decide) (rv_move (hS.ev rfl)) fun a hS => ?_
        obtain ⟨v86, w, hr, hM⟩ := Mem.litE (f := (Value.int IntKind.i64)) (dst := some 21) (ty := _) (pos := _) (af := _) (gd := _) (ps := [(0, .tmp 20)]) ([x52] : List (Int)) i64_one hM hS Tryd.underlying38 ty_el_3 rfl rfl rfl rfl
        refine st_val hS rfl rfl (by decide) hr fun a hS => ?_
        obtain ⟨_, hx, hF⟩ := bind_some hF
        have hM := hM.pick [1, 0] (by decide) rfl
        obtain ⟨v87, w, hr, hM⟩ := Mem.appE (f := (Value.int IntKind.i64)) (S := _) (R := [(true, ow 3 v86 (List.map (Value.int IntKind.i64) ([x52] : List (Int))))]) (ρ := a.eval) (dst := some 22) (ty := _) (pos := _) (af := _) (gd := _) (x := .tmp 19) (y := .tmp 21) i64_one hM Tryd.underlying38 ty_el_3 rfl (by decide) (hS.ev rfl) (hS.ev rfl) (rd_of_ow (hM.get 1 rfl)) (catO_some hx)
        refine st_val hS rfl rfl (by decide) hr fun a hS => ?_
        refine st_val hS rfl rfl (by decide) (rv_assign (hS.ev rfl)) fun a hS => ?_
        refine wpList_nil ?_
        exact hJ4 (l51 ++ ([x52] : List (Int))) v87 _ _ (hS.sub (sub_cons rfl (sub_cons rfl (sub_cons rfl sub_nil)))) (hM.pick [0] (by decide) rfl) hF
      · refine cond_f hS rfl hc ?_
        refine wp_skip ?_
        exact hJ4 l51 v50 _ _ (hS.sub (sub_cons rfl (sub_cons rfl (sub_cons rfl sub_nil)))) (hM.pick [0] (by decide) rfl) hF
    · refine cond_f hS rfl hc ?_
      refine wp_exit ?_
      cases hF
      exact hJ1 l51 v50 _ _ (hS.sub (sub_cons rfl sub_nil)) (hM.pick [0] (by decide) rfl) (by have e := hX2 _ rfl; subst e; exact hF2)
  refine wp_region_lit ?_
  refine st_val hS rfl rfl (by decide) (rv_move (hS.ev rfl)) fun a hS => ?_
  refine st_val hS rfl rfl (by decide) (rv_lss (hS.ev rfl) (hS.ev rfl)) fun a hS => ?_
  refine st_val hS rfl rfl (by decide) (rv_move (hS.ev rfl)) fun a hS => ?_
  rcases ite_some hF with ⟨hc, hF⟩ | ⟨hc, hF⟩
  · have hS := hS.setb (t := 8) rfl hc
    refine st_val hS rfl rfl (by decide) (rv_move (hS.ev rfl)) fun a hS => ?_
    obtain ⟨r88, hr, hF⟩ := bind_some hF
    refine st_wp hS rfl (wp_call hS rfl rfl (by decide) fn_ok_45 rfl (c_spec_l3Fine F p0_set hr _) fun v w a hK hS => ?_)
    obtain ⟨rfl, hN⟩ := hK
    have hM := hM.fra hN.fr
    refine st_val hS rfl rfl (by decide) (rv_pick_t (hS.ev rfl) (hS.ev rfl)) fun a hS => ?_
    refine wpList_nil ?_
    exact hJ3 r88 _ _ (hS.sub (sub_cons rfl (sub_cons rfl (sub_cons rfl (sub_cons rfl sub_nil))))) (hM.pick [0] (by decide) rfl) hF
  · have hS := hS.setb (t := 8) rfl hc
    refine st_skip hS rfl rfl (by decide) fun a hS => ?_
    refine st_skip hS rfl rfl (by decide) fun a hS => ?_
    refine st_val hS rfl rfl (by decide) (rv_pick_f (hS.ev rfl) (hS.ev rfl)) fun a hS => ?_
    refine wpList_nil ?_
    exact hJ3 false _ _ (hS.sub (sub_cons rfl (sub_cons rfl (sub_cons rfl (sub_cons rfl sub_nil))))) (hM.pick [0] (by decide) rfl) hF


theorem c_spec_FormatSet (F : Nat) (p0_set : Int) {r : (List UInt8)} (hF : S_spec_FormatSet F p0_set = some r) (w0 : World) :
    Calls Tryd.prog 23 [(Value.int IntKind.i64 p0_set)].toArray w0 (retPost fun v w' => v = (Value.string (bs r)) ∧ Mem Nob w0 w' []) := by
  have hM : Mem Nob w0 w0 [] := (Mem.nil w0)
  refine enter2 Tryd.func23 rfl rfl rfl fun Q a hQr hQn hQp hS => ?_
  have hS : Sl 28 [(0, (Value.int IntKind.i64 p0_set))] a := hS
  unfold S_spec_FormatSet at hF
  refine wp_seq_k fun K1 hK1 => ?_
  refine wp_region_lit ?_
  refine st_val hS rfl rfl (by decide) (rv_assign (hS.ev rfl)) fun a hS => ?_
  refine wpList_nil ?_
  refine hK1 _ _ ?_
  refine wp_seq_k fun K2 hK2 => ?_
  refine wp_region_lit ?_
  refine st_val hS rfl rfl (by decide) (rv_move (hS.ev rfl)) fun a hS => ?_
  obtain ⟨r5, hr, hF⟩ := bind_some hF
  refine st_wp hS rfl (wp_call hS rfl rfl (by decide) fn_ok_44 rfl (c_spec_ListOf F p0_set hr _) fun v6 w a hK hS => ?_)
  have hN := hK
  have hM := hM.add hN rfl
  refine st_val hS rfl rfl (by decide) (rv_assign (hS.ev rfl)) fun a hS => ?_
  refine wpList_nil ?_
  refine hK2 _ _ ?_
  refine wp_seq_k fun K7 hK7 => ?_
  refine wp_region_lit ?_
  refine st_val hS rfl rfl (by decide) (rv_assign (hS.ev rfl)) fun a hS => ?_
  refine wpList_nil ?_
  refine hK7 _ _ ?_
  refine wp_seq_k fun K8 hK8 => ?_
  have hJ1 : ∀ (s28 : List UInt8) (a : Act) (w : World), Sl 28 [(0, (Value.int IntKind.i64 p0_set)), (4, (Value.string (bs s28)))] a → Mem Nob w0 w [] → S_spec_FormatSet_j1 F p0_set s28 = some r → K8 a w := by
    intro s28 a w hS hM hF
    unfold S_spec_FormatSet_j1 at hF
    refine hK8 _ _ ?_
    refine wp_seq_k fun K29 hK29 => ?_
    refine wp_seq_k fun K35 hK35 => ?_
    have hJ2 : ∀ (p37 : Bool) (a : Act) (w : World), Sl 28 [(4, (Value.string (bs s28))), (26, (Value.bool p37))] a → Mem Nob w0 w [] → S_spec_FormatSet_j2 F s28 p37 = some r → K35 a w := by
      intro p37 a w hS hM hF
      unfold S_spec_FormatSet_j2 at hF
      refine hK35 _ _ ?_
      rcases ite_some hF with ⟨hc, hF⟩ | ⟨hc, hF⟩
      · refine cond_t hS rfl hc ?_
        refine wp_seq_k fun K38 hK38 => ?_
        refine wp_region_lit ?_
        refine st_val hS rfl rfl (by decide) (rv_assign (hS.ev rfl)) fun a hS => ?_
        refine wpList_nil ?_
        refine hK38 _ _ ?_
        refine wp_ret ?_
        cases hF
        exact hQr _ _ (r_1 hS rfl rfl ⟨rfl, hM.pick [] (by decide) rfl⟩)
      · refine cond_f hS rfl hc ?_
        refine wp_skip ?_
        refine hK29 _ _ ?_
        refine wp_seq_k fun K39 hK39 => ?_
        refine wp_region_lit ?_
        refine st_val hS rfl rfl (by decide) (rv_move (hS.ev rfl)) fun a hS => ?_
        refine st_val hS rfl rfl (by decide) (rv_assign (hS.ev rfl)) fun a hS => ?_
        refine wpList_nil ?_
        refine hK39 _ _ ?_
        refine wp_ret ?_
        cases hF
        exact hQr _ _ (r_1 hS rfl rfl ⟨rfl, hM.pick [] (by decide) rfl⟩)
    refine wp_region_lit ?_
    refine st_val hS rfl rfl (by decide) (rv_move (hS.ev rfl)) fun a hS => ?_
    refine st_val hS rfl rfl (by decide) (rv_str_eql (hS.ev rfl) (hS.ev rfl)) fun a hS => ?_
    refine st_val hS rfl rfl (by decide) (rv_move (hS.ev rfl)) fun a hS => ?_
    rcases ite_some hF with ⟨hc, hF⟩ | ⟨hc, hF⟩
    · have hS := hS.setb (t := 23) rfl hc
      refine st_val hS rfl rfl (by decide) (rv_move (hS.ev rfl)) fun a hS => ?_
      obtain ⟨r40, hr, hF⟩ := bind_some hF
      refine st_wp hS rfl (wp_call hS rfl rfl (by decide) fn_ok_45 rfl (c_spec_l3Fine F p0_set hr _) fun v w a hK hS => ?_)
      obtain ⟨rfl, hN⟩ := hK
      have hM := hM.fra hN.fr
      refine st_val hS rfl rfl (by decide) (rv_pick_t (hS.ev rfl) (hS.ev rfl)) fun a hS => ?_
      refine wpList_nil ?_
      exact hJ2 r40 _ _ (hS.sub (sub_cons rfl (sub_cons rfl sub_nil))) (hM.pick [] (by decide) rfl) hF
    · have hS := hS.setb (t := 23) rfl hc
      refine st_skip hS rfl rfl (by decide) fun a hS => ?_
      refine st_skip hS rfl rfl (by decide) fun a hS => ?_
      refine st_val hS rfl rfl (by decide) (rv_pick_f (hS.ev rfl) (hS.ev rfl)) fun a hS => ?_
      refine wpList_nil ?_
      exact hJ2 false _ _ (hS.sub (sub_cons rfl (sub_cons rfl sub_nil))) (hM.pick [] (by decide) rfl) hF
  refine wp_seq_k fun K41 hK41 => ?_
  refine wp_region_lit ?_
  refine st_val hS rfl rfl (by decide) (rv_assign (hS.ev rfl)) fun a hS => ?_
  refine wpList_nil ?_
  refine hK41 _ _ ?_
  refine wp_block ?_
  obtain ⟨lb3, hl3, hF3⟩ := bind_some hF
  refine wp_loop_sh (fun s => S_spec_FormatSet_l3 F r5 s.1 s.2) (fun s a w => Sl 28 [(0, (Value.int IntKind.i64 p0_set)), (3, v6), (4, (Value.string (bs s.1))), (5, (Value.int IntKind.i64 s.2))] a ∧ Mem Nob w0 w [(true, ow 3 v6 (List.map (Value.int IntKind.i64) r5))]) hl3 ⟨(hS.sub (sub_cons rfl (sub_cons rfl (sub_cons rfl (sub_cons rfl sub_nil))))), (hM.pick [0] (by decide) rfl)⟩ ?_
  rintro K3 ⟨s42, x43⟩ a w res3 ⟨hS, hM⟩ hF hN3 hX3
  have hF : S_spec_FormatSet_l3 F r5 s42 x43 = some res3 := hF
  have hS : Sl 28 [(0, (Value.int IntKind.i64 p0_set)), (3, v6), (4, (Value.string (bs s42))), (5, (Value.int IntKind.i64 x43))] a := hS
  have hM : Mem Nob w0 w [(true, ow 3 v6 (List.map (Value.int IntKind.i64) r5))] := hM
  unfold S_spec_FormatSet_l3 at hF
  refine wp_seq_k fun K52 hK52 => ?_
  refine wp_seq_k fun K54 hK54 => ?_
  refine wp_region_lit ?_
  refine st_val hS rfl rfl (by decide) (rv_move (hS.ev rfl)) fun a hS => ?_
  refine st_val hS rfl rfl (by decide) (rv_move (hS.ev rfl)) fun a hS => ?_
  refine st_val hS rfl rfl (by decide) (rv_len_rowM Tryd.underlying38 (hS.ev rfl) (rd_of_ow (hM.get 0 rfl))) fun a hS => ?_
  refine st_val hS rfl rfl (by decide) (rv_lss (hS.ev rfl) (hS.ev rfl)) fun a hS => ?_
  refine wpList_nil ?_
  refine hK54 _ _ ?_
  rcases ite_some hF with ⟨hc, hF⟩ | ⟨hc, hF⟩
  · refine cond_t hS rfl hc ?_
    refine wp_skip ?_
    refine hK52 _ _ ?_
    refine wp_seq_k fun K55 hK55 => ?_
    refine wp_block ?_
    refine wp_region_lit ?_
    refine st_val hS rfl rfl (by decide) (rv_move (hS.ev rfl)) fun a hS => ?_
    refine st_val hS rfl rfl (by decide) (rv_move (hS.ev rfl)) fun a hS => ?_
    refine st_val hS rfl rfl (by decide) (rv_move (hS.ev rfl)) fun a hS => ?_
    obtain ⟨x58, hx, hF⟩ := bind_some hF
    obtain ⟨hi0, hi1, hex58⟩ := idxL_some hx
    refine st_val hS rfl rfl (by decide) (rv_indexAddr Tryd.underlying38 ty_el_3 (hS.ev rfl) (hS.ev rfl) (rd_of_ow (hM.get 0 rfl)) hi0 (map_len hi1)) fun a hS => ?_
    refine st_val hS rfl rfl (by decide) (rv_load_el (hS.ev rfl) ty_ag_3 (rd_of_ow (hM.get 0 rfl)) (mget hex58)) fun a hS => ?_
    obtain ⟨r59, hr, hF⟩ := bind_some hF
    refine st_wp hS rfl (wp_call hS rfl rfl (by decide) fn_ok_22 rfl (c_spec_FormatInt F x58 hr _) fun v w a hK hS => ?_)
    obtain ⟨rfl, hN⟩ := hK
    have hM := hM.fra hN.fr
    obtain ⟨_, hx, hF⟩ := bind_some hF
    have hi0 := catO_some hx
    refine st_val hS rfl rfl (by decide) (rv_str_add (hS.ev rfl) (hS.ev rfl) hi0) fun a hS => ?_
    refine st_val hS rfl rfl (by decide) (rv_assign (hS.ev rfl)) fun a hS => ?_
    refine wpList_nil ?_
    refine hK55 _ _ ?_
    refine wp_region_lit ?_
    refine st_val hS rfl rfl (by decide) (rv_move (hS.ev rfl)) fun a hS => ?_
    refine st_val hS rfl rfl (by decide) (rv_add (hS.ev rfl) (hS.ev rfl)) fun a hS => ?_
    refine st_val hS rfl rfl (by decide) (rv_assign (hS.ev rfl)) fun a hS => ?_
    refine wpList_nil ?_
    cases hF
    exact hN3 _ _ _ rfl ⟨(hS.sub (sub_cons rfl (sub_cons rfl (sub_cons rfl (sub_cons rfl sub_nil))))), (hM.pick [0] (by decide) rfl)⟩
  · refine cond_f hS rfl hc ?_
    refine wp_exit ?_
    cases hF
    exact hJ1 s42 _ _ (hS.sub (sub_cons rfl (sub_cons rfl sub_nil))) (hM.pick [] (by decide) rfl) (by have e := hX3 _ rfl; subst e; exact hF3)


theorem c_impl_digits (F : Nat) (p0_l : List Int) (p0_lv : Value) {r : (List UInt8)} (hF : S_impl_digits F p0_l = some r) (w0 : World) (h0 : RdRow w0 p0_lv (List.map (Value.int IntKind.i64) p0_l)) (h1 : (tabR Tryd.prog tabN).P w0) :
    Calls Tryd.prog 46 [p0_lv].toArray w0 (retPost fun v w' => v = (Value.string (bs r)) ∧ Mem Nob w0 w' []) := by
  have hM : Mem Nob w0 w0 [(false, rd p0_lv (List.map (Value.int IntKind.i64) p0_l)), (false, tabR Tryd.prog tabN)] := (Mem.rcons (Mem.gcons (Mem.nil w0) h1 (by simp)) h0 (by simp))
  refine enter2 Tryd.func46 rfl rfl rfl fun Q a hQr hQn hQp hS => ?_
  have hS : Sl 18 [(0, p0_lv)] a := hS
  unfold S_impl_digits at hF
  refine wp_seq_k fun K1 hK1 => ?_
  refine wp_region_lit ?_
  refine st_val hS rfl rfl (by decide) (rv_assign (hS.ev rfl)) fun a hS => ?_
  refine wpList_nil ?_
  refine hK1 _ _ ?_
  refine wp_seq_k fun K2 hK2 => ?_
  refine wp_region_lit ?_
  refine st_val hS rfl rfl (by decide) (rv_assign (hS.ev rfl)) fun a hS => ?_
  refine wpList_nil ?_
  refine hK2 _ _ ?_
  refine wp_seq_k fun K3 hK3 => ?_
  have hJ1 : ∀ (s29 : List UInt8) (a : Act) (w : World), Sl 18 [(3, (Value.string (bs s29)))] a → Mem Nob w0 w [(false, tabR Tryd.prog tabN)] → S_impl_digits_j1 F s29 = some r → K3 a w := by
    intro s29 a w hS hM hF
    unfold S_impl_digits_j1 at hF
    refine hK3 _ _ ?_
    refine wp_seq_k fun K30 hK30 => ?_
    refine wp_region_lit ?_
    refine st_val hS rfl rfl (by decide) (rv_move (hS.ev rfl)) fun a hS => ?_
    refine st_val hS rfl rfl (by decide) (rv_assign (hS.ev rfl)) fun a hS => ?_
    refine wpList_nil ?_
    refine hK30 _ _ ?_
    refine wp_ret ?_
    cases hF
    exact hQr _ _ (r_1 hS rfl rfl ⟨rfl, hM.pick [] (by decide) rfl⟩)
  refine wp_seq_k fun K31 hK31 => ?_
  refine wp_region_lit ?_
  refine st_val hS rfl rfl (by decide) (rv_move (hS.ev rfl)) fun a hS => ?_
  refine st_val hS rfl rfl (by decide) (rv_len_rowM Tryd.underlying38 (hS.ev rfl) (hM.get 0 rfl)) fun a hS => ?_
  refine st_val hS rfl rfl (by decide) (rv_move (hS.ev rfl)) fun a hS => ?_
  refine wpList_nil ?_
  refine hK31 _ _ ?_
  refine wp_block ?_
  obtain ⟨lb2, hl2, hF2⟩ := bind_some hF
  refine wp_loop_sh (fun s => S_impl_digits_l2 F p0_l s.1 s.2) (fun s a w => Sl 18 [(3, (Value.string (bs s.1))), (6, p0_lv), (7, (Value.int IntKind.i64 (p0_l.length : Int))), (8, (Value.int IntKind.i64 s.2))] a ∧ Mem Nob w0 w [(false, rd p0_lv (List.map (Value.int IntKind.i64) p0_l)), (false, tabR Tryd.prog tabN)]) hl2 ⟨(hS.sub (sub_cons rfl (sub_cons rfl (sub_cons rfl (sub_cons rfl sub_nil))))), (hM.pick [0, 1] (by decide) rfl)⟩ ?_
  rintro K2 ⟨s32, x33⟩ a w res2 ⟨hS, hM⟩ hF hN2 hX2
  have hF : S_impl_digits_l2 F p0_l s32 x33 = some res2 := hF
  have hS : Sl 18 [(3, (Value.string (bs s32))), (6, p0_lv), (7, (Value.int IntKind.i64 (p0_l.length : Int))), (8, (Value.int IntKind.i64 x33))] a := hS
  have hM : Mem Nob w0 w [(false, rd p0_lv (List.map (Value.int IntKind.i64) p0_l)), (false, tabR Tryd.prog tabN)] := hM
  unfold S_impl_digits_l2 at hF
  refine wp_seq_k fun K45 hK45 => ?_
  refine wp_region_lit ?_
  refine st_val hS rfl rfl (by decide) (rv_lss (hS.ev rfl) (hS.ev rfl)) fun a hS => ?_
  refine wpList_nil ?_
  refine hK45 _ _ ?_
  refine wp_seq_k fun K46 hK46 => ?_
  rcases ite_some hF with ⟨hc, hF⟩ | ⟨hc, hF⟩
  · refine cond_t hS rfl hc ?_
    refine wp_skip ?_
    refine hK46 _ _ ?_
    refine wp_seq_k fun K47 hK47 => ?_
    refine wp_block ?_
    refine wp_seq_k fun K52 hK52 => ?_
    refine wp_region_lit ?_
    obtain ⟨x54, hx, hF⟩ := bind_some hF
    obtain ⟨hi0, hi1, hex54⟩ := idxL_some hx
    refine st_val hS rfl rfl (by decide) (rv_indexAddr Tryd.underlying38 ty_el_3 (hS.ev rfl) (hS.ev rfl) (hM.get 0 rfl) hi0 (map_len hi1)) fun a hS => ?_
    refine st_val hS rfl rfl (by decide) (rv_load_el (hS.ev rfl) ty_ag_3 (hM.get 0 rfl) (mget hex54)) fun a hS => ?_
    refine st_val hS rfl rfl (by decide) (rv_assign (hS.ev rfl)) fun a hS => ?_
    refine wpList_nil ?_
    refine hK52 _ _ ?_
    refine wp_region_lit ?_
    refine st_val hS rfl rfl (by decide) (rv_move (hS.ev rfl)) fun a hS => ?_
    refine st_val hS rfl rfl (by decide) (rv_move (hS.ev rfl)) fun a hS => ?_
    obtain ⟨r55, hr, hF⟩ := bind_some hF
    refine st_wp hS rfl (wp_call hS rfl rfl (by decide) fn_ok_20 rfl (c_impl_FormatInt F x54 hr _ (hM.get 1 rfl)) fun v w a hK hS => ?_)
    obtain ⟨rfl, hN⟩ := hK
    have hM := hM.fra hN.fr
    obtain ⟨_, hx, hF⟩ := bind_some hF
    have hi0 := catO_some hx
    refine st_val hS rfl rfl (by decide) (rv_str_add (hS.ev rfl) (hS.ev rfl) hi0) fun a hS => ?_
    refine st_val hS rfl rfl (by decide) (rv_assign (hS.ev rfl)) fun a hS => ?_
    refine wpList_nil ?_
    refine hK47 _ _ ?_
    refine wp_region_lit ?_
    refine st_val hS rfl rfl (by decide) (rv_add (hS.ev rfl) (hS.ev rfl)) fun a hS => ?_
    refine st_val hS rfl rfl (by decide) (rv_move (hS.ev rfl)) fun a hS => ?_
    refine wpList_nil ?_
    cases hF
    exact hN2 _ _ _ rfl ⟨(hS.sub (sub_cons rfl (sub_cons rfl (sub_cons rfl (sub_cons rfl sub_nil))))), (hM.pick [0, 1] (by decide) rfl)⟩
  · refine cond_f hS rfl hc ?_
    refine wp_exit ?_
    cases hF
    exact hJ1 s32 _ _ (hS.sub (sub_cons rfl sub_nil)) (hM.pick [1] (by decide) rfl) (by have e := hX2 _ rfl; subst e; exact hF2)


theorem c_impl_has (F : Nat) (p0_set : Int) (p1_v : Int) {r : Bool} (hF : S_impl_has F p0_set p1_v = some r) (w0 : World) :
    Calls Tryd.prog 64 [(Value.int IntKind.i64 p0_set), (Value.int IntKind.i64 p1_v)].toArray w0 (retPost fun v w' => v = (Value.bool r) ∧ Mem Nob w0 w' []) := by
  have hM : Mem Nob w0 w0 [] := (Mem.nil w0)
  refine enter2 Tryd.func64 rfl rfl rfl fun Q a hQr hQn hQp hS => ?_
  have hS : Sl 10 [(0, (Value.int IntKind.i64 p0_set)), (1, (Value.int IntKind.i64 p1_v))] a := hS
  unfold S_impl_has at hF
  refine wp_seq_k fun K1 hK1 => ?_
  refine wp_region_lit ?_
  refine st_val hS rfl rfl (by decide) (rv_assign (hS.ev rfl)) fun a hS => ?_
  refine wpList_nil ?_
  refine hK1 _ _ ?_
  refine wp_seq_k fun K2 hK2 => ?_
  refine wp_region_lit ?_
  refine st_val hS rfl rfl (by decide) (rv_move (hS.ev rfl)) fun a hS => ?_
  refine st_val hS rfl rfl (by decide) (rv_move (hS.ev rfl)) fun a hS => ?_
  obtain ⟨_, hx, hF⟩ := bind_some hF
  have hi0 := nnO_some hx
  refine st_val hS rfl rfl (by decide) (rv_shr (hS.ev rfl) (hS.ev rfl) hi0) fun a hS => ?_
  refine st_val hS rfl rfl (by decide) (rv_and (hS.ev rfl) (hS.ev rfl)) fun a hS => ?_
  refine st_val hS rfl rfl (by decide) (rv_eql (hS.ev rfl) (hS.ev rfl)) fun a hS => ?_
  refine st_val hS rfl rfl (by decide) (rv_assign (hS.ev rfl)) fun a hS => ?_
  refine wpList_nil ?_
  refine hK2 _ _ ?_
  refine wp_ret ?_
  cases hF
  exact hQr _ _ (r_1 hS rfl rfl ⟨rfl, hM.pick [] (by decide) rfl⟩)


theorem c_impl_ListOf (F : Nat) (p0_set : Int) {r : (List (Int))} (hF : S_impl_ListOf F p0_set = some r) (w0 : World) :
    Calls Tryd.prog 47 [(Value.int IntKind.i64 p0_set)].toArray w0 (retPost fun v w' => Mem Nob w0 w' [(true, ow 3 v (List.map (Value.int IntKind.i64) r))]) := by
  have hM : Mem Nob w0 w0 [] := (Mem.nil w0)
  refine enter2 Tryd.func47 rfl rfl rfl fun Q a hQr hQn hQp hS => ?_
  have hS : Sl 22 [(0, (Value.int IntKind.i64 p0_set))] a := hS
  unfold S_impl_ListOf at hF
  refine wp_seq_k fun K1 hK1 => ?_
  refine wp_region_lit ?_
  refine st_val hS rfl rfl (by decide) (rv_assign (hS.ev rfl)) fun a hS => ?_
  refine wpList_nil ?_
  refine hK1 _ _ ?_
  refine wp_seq_k fun K2 hK2 => ?_
  refine wp_region_lit ?_
  obtain ⟨v4, w, hr, hM⟩ := Mem.litE (f := (Value.int IntKind.i64)) (dst := some 5) (ty := _) (pos := _) (af := _) (gd := _) (ps := []) ([] : List (Int)) i64_one hM hS Tryd.underlying38 ty_el_3 rfl rfl rfl rfl
  refine st_val hS rfl rfl (by decide) hr fun a hS => ?_
  refine st_val hS rfl rfl (by decide) (rv_assign (hS.ev rfl)) fun a hS => ?_
  refine wpList_nil ?_
  refine hK2 _ _ ?_
  refine wp_seq_k fun K5 hK5 => ?_
  refine wp_seq_k fun K10 hK10 => ?_
  refine wp_region_lit ?_
  refine st_val hS rfl rfl (by decide) (rv_move (hS.ev rfl)) fun a hS => ?_
  obtain ⟨r12, hr, hF⟩ := bind_some hF
  refine st_wp hS rfl (wp_call hS rfl rfl (by decide) fn_ok_38 rfl (c_impl_within F p0_set 0 127 hr _) fun v w a hK hS => ?_)
  obtain ⟨rfl, hN⟩ := hK
  have hM := hM.fra hN.fr
  refine st_val hS rfl rfl (by decide) (rv_not (hS.ev rfl)) fun a hS => ?_
  refine wpList_nil ?_
  refine hK10 _ _ ?_
  rcases ite_some hF with ⟨hc, hF⟩ | ⟨hc, hF⟩
  · refine cond_t hS rfl hc ?_
    refine wp_seq_k fun K13 hK13 => ?_
    refine wp_region_lit ?_
    refine st_val hS rfl rfl (by decide) (rv_move (hS.ev rfl)) fun a hS => ?_
    refine st_val hS rfl rfl (by decide) (rv_assign (hS.ev rfl)) fun a hS => ?_
    refine wpList_nil ?_
    refine hK13 _ _ ?_
    refine wp_ret ?_
    cases hF
    exact hQr _ _ (r_1 hS rfl rfl (hM.pick [0] (by decide) rfl))
  · refine cond_f hS rfl hc ?_
    refine wp_skip ?_
    refine hK5 _ _ ?_
    refine wp_seq_k fun K14 hK14 => ?_
    have hJ1 : ∀ (l54 : List Int) (v53 : Value) (a : Act) (w : World), Sl 22 [(3, v53)] a → Mem Nob w0 w [(true, ow 3 v53 (List.map (Value.int IntKind.i64) l54))] → S_impl_ListOf_j1 F l54 = some r → K14 a w := by
      intro l54 v53 a w hS hM hF
      unfold S_impl_ListOf_j1 at hF
      refine hK14 _ _ ?_
      refine wp_seq_k fun K55 hK55 => ?_
      refine wp_region_lit ?_
      refine st_val hS rfl rfl (by decide) (rv_move (hS.ev rfl)) fun a hS => ?_
      refine st_val hS rfl rfl (by decide) (rv_assign (hS.ev rfl)) fun a hS => ?_
      refine wpList_nil ?_
      refine hK55 _ _ ?_
      refine wp_ret ?_
      cases hF
      exact hQr _ _ (r_1 hS rfl rfl (hM.pick [0] (by decide) rfl))
    refine wp_seq_k fun K56 hK56 => ?_
    refine wp_region_lit ?_
    refine st_val hS rfl rfl (by decide) (rv_move (hS.ev rfl)) fun a hS => ?_
    refine wpList_nil ?_
    refine hK56 _ _ ?_
    refine wp_block ?_
    obtain ⟨lb2, hl2, hF2⟩ := bind_some hF
    refine wp_loop_sh (fun s => S_impl_ListOf_l2 F p0_set s.1 s.2) (fun s a w => ∃ (v57 : Value), Sl 22 [(0, (Value.int IntKind.i64 p0_set)), (3, v57), (10, (Value.int IntKind.i64 s.2))] a ∧ Mem Nob w0 w [(true, ow 3 v57 (List.map (Value.int IntKind.i64) s.1))]) hl2 ⟨v4, (hS.sub (sub_cons rfl (sub_cons rfl (sub_cons rfl sub_nil)))), (hM.pick [0] (by decide) rfl)⟩ ?_
    rintro K2 ⟨l58, x59⟩ a w res2 ⟨v57, hS, hM⟩ hF hN2 hX2
    have hF : S_impl_ListOf_l2 F p0_set l58 x59 = some res2 := hF
    have hS : Sl 22 [(0, (Value.int IntKind.i64 p0_set)), (3, v57), (10, (Value.int IntKind.i64 x59))] a := hS
    have hM : Mem Nob w0 w [(true, ow 3 v57 (List.map (Value.int IntKind.i64) l58))] := hM
    unfold S_impl_ListOf_l2 at hF
    refine wp_seq_k fun K77 hK77 => ?_
    refine wp_region_lit ?_
    refine st_val hS rfl rfl (by decide) (rv_lss (hS.ev rfl) (hS.ev rfl)) fun a hS => ?_
    refine wpList_nil ?_
    refine hK77 _ _ ?_
    refine wp_seq_k fun K78 hK78 => ?_
    rcases ite_some hF with ⟨hc, hF⟩ | ⟨hc, hF⟩
    · refine cond_t hS rfl hc ?_
      refine wp_skip ?_
      refine hK78 _ _ ?_
      refine wp_seq_k fun K79 hK79 => ?_
      have hJ3 : ∀ (l87 : List Int) (v86 : Value) (a : Act) (w : World), Sl 22 [(0, (Value.int IntKind.i64 p0_set)), (3, v86), (10, (Value.int IntKind.i64 x59))] a → Mem Nob w0 w [(true, ow 3 v86 (List.map (Value.int IntKind.i64) l87))] → S_impl_ListOf_j3 F x59 l87 = some res2 → K79 a w := by
        intro l87 v86 a w hS hM hF
        unfold S_impl_ListOf_j3 at hF
        refine hK79 _ _ ?_
        refine wp_region_lit ?_
        refine st_val hS rfl rfl (by decide) (rv_add (hS.ev rfl) (hS.ev rfl)) fun a hS => ?_
        refine st_val hS rfl rfl (by decide) (rv_move (hS.ev rfl)) fun a hS => ?_
        refine wpList_nil ?_
        cases hF
        exact hN2 _ _ _ rfl ⟨v86, (hS.sub (sub_cons rfl (sub_cons rfl (sub_cons rfl sub_nil)))), (hM.pick [0] (by decide) rfl)⟩
      refine wp_block ?_
      refine wp_seq_k fun K88 hK88 => ?_
      refine wp_region_lit ?_
      refine st_val hS rfl rfl (by decide) (rv_move (hS.ev rfl)) fun a hS => ?_
      refine st_val hS rfl rfl (by decide) (rv_assign (hS.ev rfl)) fun a hS => ?_
      refine wpList_nil ?_
      refine hK88 _ _ ?_
      refine wp_seq_k fun K89 hK89 => ?_
      refine wp_region_lit ?_
      refine st_val hS rfl rfl (by decide) (rv_move (hS.ev rfl)) fun a hS => ?_
      refine st_val hS rfl rfl (by decide) (rv_move (hS.ev rfl)) fun a hS => ?_
      obtain ⟨r91, hr, hF⟩ := bind_some hF
      refine st_wp hS rfl (wp_call hS rfl rfl (by decide) fn_ok_64 rfl (c_impl_has F p0_set x59 hr _) fun v w a hK hS => ?_)
      obtain ⟨rfl, hN⟩ := hK
      have hM := hM.fra hN.fr
      refine wpList_nil ?_
      refine hK89 _ _ ?_
      rcases ite_some hF with ⟨hc, hF⟩ | ⟨hc, hF⟩
      · refine cond_t hS rfl hc ?_
        refine wp_region_lit ?_
        refine st_val hS rfl rfl (by decide) (rv_move (hS.ev rfl)) fun a hS => ?_
        refine st_val hS rfl rfl (by decide) (rv_move (hS.ev rfl)) fun a hS => ?_
        obtain ⟨v92, w, hr, hM⟩ := Mem.litE (f := (Value.int IntKind.i64)) (dst := some 18) (ty := _) (pos := _) (af := _) (gd := _) (ps := [(0, .tmp 17)]) ([x59] : List (Int)) i64_one hM hS Tryd.underlying38 ty_el_3 rfl rfl rfl rfl
        refine st_val hS rfl rfl (by decide) hr fun a hS => ?_
        obtain ⟨_, hx, hF⟩ := bind_some hF
        have hM := hM.pick [1, 0] (by decide) rfl
        obtain ⟨v93, w, hr, hM⟩ := Mem.appE (f := (Value.int IntKind.i64)) (S := _) (R := [(true, ow 3 v92 (List.map (Value.int IntKind.i64) ([x59] : List (Int))))]) (ρ := a.eval) (dst := some 19) (ty := _) (pos := _) (af := _) (gd := _) (x := .tmp 16) (y := .tmp 18) i64_one hM Tryd.underlying38 ty_el_3 rfl (by decide) (hS.ev rfl) (hS.ev rfl) (rd_of_ow (hM.get 1 rfl)) (catO_some hx)
        refine st_val hS rfl rfl (by decide) hr fun a hS => ?_
        refine st_val hS rfl rfl (by decide) (rv_assign (hS.ev rfl)) fun a hS => ?_
        refine wpList_nil ?_
        exact hJ3 (l58 ++ ([x59] : List (Int))) v93 _ _ (hS.sub (sub_cons rfl (sub_cons rfl (sub_cons rfl sub_nil)))) (hM.pick [0] (by decide) rfl) hF
      · refine cond_f hS rfl hc ?_
        refine wp_skip ?_
        exact hJ3 l58 v57 _ _ (hS.sub (sub_cons rfl (sub_cons rfl (sub_cons rfl sub_nil)))) (hM.pick [0] (by decide) rfl) hF
    · refine cond_f hS rfl hc ?_
      refine wp_exit ?_
      cases hF
      exact hJ1 l58 v57 _ _ (hS.sub (sub_cons rfl sub_nil)) (hM.pick [0] (by decide) rfl) (by have e := hX2 _ rfl; subst e; exact hF2)


theorem c_impl_FormatSet (F : Nat) (p0_set : Int) {r : (List UInt8)} (hF : S_impl_FormatSet F p0_set = some r) (w0 : World) (h0 : (tabR Tryd.prog tabN).P w0) :
    Calls Tryd.prog 24 [(Value.int IntKind.i64 p0_set)].toArray w0 (retPost fun v w' => v = (Value.string (bs r)) ∧ Mem Nob w0 w' []) := by
  have hM : Mem Nob w0 w0 [(false, tabR Tryd.prog tabN)] := (Mem.gcons (Mem.nil w0) h0 (by simp))
  refine enter2 Tryd.func24 rfl rfl rfl fun Q a hQr hQn hQp hS => ?_
  have hS : Sl 8 [(0, (Value.int IntKind.i64 p0_set))] a := hS
  unfold S_impl_FormatSet at hF
  refine wp_seq_k fun K1 hK1 => ?_
  refine wp_region_lit ?_
  refine st_val hS rfl rfl (by decide) (rv_assign (hS.ev rfl)) fun a hS => ?_
  refine wpList_nil ?_
  refine hK1 _ _ ?_
  refine wp_seq_k fun K2 hK2 => ?_
  refine wp_seq_k fun K5 hK5 => ?_
  refine wp_region_lit ?_
  refine st_val hS rfl rfl (by decide) (rv_move (hS.ev rfl)) fun a hS => ?_
  refine st_val hS rfl rfl (by decide) (rv_eql (hS.ev rfl) (hS.ev rfl)) fun a hS => ?_
  refine wpList_nil ?_
  refine hK5 _ _ ?_
  rcases ite_some hF with ⟨hc, hF⟩ | ⟨hc, hF⟩
  · refine cond_t hS rfl hc ?_
    refine wp_seq_k fun K6 hK6 => ?_
    refine wp_region_lit ?_
    refine st_val hS rfl rfl (by decide) (rv_assign (hS.ev rfl)) fun a hS => ?_
    refine wpList_nil ?_
    refine hK6 _ _ ?_
    refine wp_ret ?_
    cases hF
    exact hQr _ _ (r_1 hS rfl rfl ⟨rfl, hM.pick [] (by decide) rfl⟩)
  · refine cond_f hS rfl hc ?_
    refine wp_skip ?_
    refine hK2 _ _ ?_
    refine wp_seq_k fun K7 hK7 => ?_
    refine wp_region_lit ?_
    refine st_val hS rfl rfl (by decide) (rv_move (hS.ev rfl)) fun a hS => ?_
    obtain ⟨r11, hr, hF⟩ := bind_some hF
    refine st_wp hS rfl (wp_call hS rfl rfl (by decide) fn_ok_47 rfl (c_impl_ListOf F p0_set hr _) fun v12 w a hK hS => ?_)
    have hN := hK
    have hM := hM.add hN rfl
    obtain ⟨r13, hr, hF⟩ := bind_some hF
    refine st_wp hS rfl (wp_call hS rfl rfl (by decide) fn_ok_46 rfl (c_impl_digits F r11 v12 hr _ (rd_of_ow (hM.get 0 rfl)) (hM.get 1 rfl)) fun v w a hK hS => ?_)
    obtain ⟨rfl, hN⟩ := hK
    have hM := hM.fra hN.fr
    refine st_val hS rfl rfl (by decide) (rv_assign (hS.ev rfl)) fun a hS => ?_
    refine wpList_nil ?_
    refine hK7 _ _ ?_
    refine wp_ret ?_
    cases hF
    exact hQr _ _ (r_1 hS rfl rfl ⟨rfl, hM.pick [] (by decide) rfl⟩)


theorem c_laws_FnExactFormatSet (F : Nat) (p0_aSet : Int) {r : Bool} (hF : S_laws_FnExactFormatSet F p0_aSet = some r) (w0 : World) (h0 : (tabR Tryd.prog tabN).P w0) :
    Calls Tryd.prog 5 [(Value.int IntKind.i64 p0_aSet)].toArray w0 (retPost fun v w' => v = (Value.bool r) ∧ Mem Nob w0 w' []) := by
  have hM : Mem Nob w0 w0 [(false, tabR Tryd.prog tabN)] := (Mem.gcons (Mem.nil w0) h0 (by simp))
  refine enter2 Tryd.func5 rfl rfl rfl fun Q a hQr hQn hQp hS => ?_
  have hS : Sl 12 [(0, (Value.int IntKind.i64 p0_aSet))] a := hS
  unfold S_laws_FnExactFormatSet at hF
  refine wp_seq_k fun K1 hK1 => ?_
  refine wp_region_lit ?_
  refine st_val hS rfl rfl (by decide) (rv_assign (hS.ev rfl)) fun a hS => ?_
  refine wpList_nil ?_
  refine hK1 _ _ ?_
  refine wp_seq_k fun K2 hK2 => ?_
  refine wp_region_lit ?_
  refine st_val hS rfl rfl (by decide) (rv_move (hS.ev rfl)) fun a hS => ?_
  obtain ⟨r4, hr, hF⟩ := bind_some hF
  refine st_wp hS rfl (wp_call hS rfl rfl (by decide) fn_ok_23 rfl (c_spec_FormatSet F p0_aSet hr _) fun v w a hK hS => ?_)
  obtain ⟨rfl, hN⟩ := hK
  have hM := hM.fra hN.fr
  refine st_val hS rfl rfl (by decide) (rv_assign (hS.ev rfl)) fun a hS => ?_
  refine wpList_nil ?_
  refine hK2 _ _ ?_
  refine wp_seq_k fun K5 hK5 => ?_
  refine wp_region_lit ?_
  refine st_val hS rfl rfl (by decide) (rv_move (hS.ev rfl)) fun a hS => ?_
  obtain ⟨r7, hr, hF⟩ := bind_some hF
  refine st_wp hS rfl (wp_call hS rfl rfl (by decide) fn_ok_24 rfl (c_impl_FormatSet F p0_aSet hr _ (hM.get 0 rfl)) fun v w a hK hS => ?_)
  obtain ⟨rfl, hN⟩ := hK
  have hM := hM.fra hN.fr
  refine st_val hS rfl rfl (by decide) (rv_assign (hS.ev rfl)) fun a hS => ?_
  refine wpList_nil ?_
  refine hK5 _ _ ?_
  refine wp_seq_k fun K8 hK8 => ?_
  refine wp_seq_k fun K11 hK11 => ?_
  refine wp_region_lit ?_
  refine st_val hS rfl rfl (by decide) (rv_move (hS.ev rfl)) fun a hS => ?_
  refine st_val hS rfl rfl (by decide) (rv_move (hS.ev rfl)) fun a hS => ?_
  refine st_val hS rfl rfl (by decide) (rv_str_neq (hS.ev rfl) (hS.ev rfl)) fun a hS => ?_
  refine wpList_nil ?_
  refine hK11 _ _ ?_
  rcases ite_some hF with ⟨hc, hF⟩ | ⟨hc, hF⟩
  · refine cond_t hS rfl hc ?_
    refine wp_seq_k fun K12 hK12 => ?_
    refine wp_region_lit ?_
    refine st_val hS rfl rfl (by decide) (rv_assign (hS.ev rfl)) fun a hS => ?_
    refine wpList_nil ?_
    refine hK12 _ _ ?_
    refine wp_ret ?_
    cases hF
    exact hQr _ _ (r_1 hS rfl rfl ⟨rfl, hM.pick [] (by decide) rfl⟩)
  · refine cond_f hS rfl hc ?_
    refine wp_skip ?_
    refine hK8 _ _ ?_
    refine wp_seq_k fun K13 hK13 => ?_
    refine wp_region_lit ?_
    refine st_val hS rfl rfl (by decide) (rv_assign (hS.ev rfl)) fun a hS => ?_
    refine wpList_nil ?_
    refine hK13 _ _ ?_
    refine wp_ret ?_
    cases hF
    exact hQr _ _ (r_1 hS rfl rfl ⟨rfl, hM.pick [] (by decide) rfl⟩)


theorem c_laws_szIntS (F : Nat) (p0_a : List Int) (p1_left : Int) (p0_av : Value) {r : Int} (hF : S_laws_szIntS F p0_a p1_left = some r) (w0 : World) (h0 : RdRow w0 p0_av (List.map (Value.int IntKind.i64) p0_a)) :
    Calls Tryd.prog 48 [p0_av, (Value.int IntKind.i64 p1_left)].toArray w0 (retPost fun v w' => v = (Value.int IntKind.i64 r) ∧ Mem Nob w0 w' []) := by
  have hM : Mem Nob w0 w0 [(false, rd p0_av (List.map (Value.int IntKind.i64) p0_a))] := (Mem.rcons (Mem.nil w0) h0 (by simp))
  refine enter2 Tryd.func48 rfl rfl rfl fun Q a hQr hQn hQp hS => ?_
  have hS : Sl 12 [(0, p0_av), (1, (Value.int IntKind.i64 p1_left))] a := hS
  unfold S_laws_szIntS at hF
  refine wp_seq_k fun K1 hK1 => ?_
  refine wp_region_lit ?_
  refine st_val hS rfl rfl (by decide) (rv_assign (hS.ev rfl)) fun a hS => ?_
  refine wpList_nil ?_
  refine hK1 _ _ ?_
  refine wp_seq_k fun K2 hK2 => ?_
  refine wp_region_lit ?_
  refine st_val hS rfl rfl (by decide) (rv_move (hS.ev rfl)) fun a hS => ?_
  refine st_val hS rfl rfl (by decide) (rv_move (hS.ev rfl)) fun a hS => ?_
  refine st_val hS rfl rfl (by decide) (rv_len_rowM Tryd.underlying38 (hS.ev rfl) (hM.get 0 rfl)) fun a hS => ?_
  refine st_val hS rfl rfl (by decide) (rv_sub (hS.ev rfl) (hS.ev rfl)) fun a hS => ?_
  refine st_val hS rfl rfl (by decide) (rv_assign (hS.ev rfl)) fun a hS => ?_
  refine wpList_nil ?_
  refine hK2 _ _ ?_
  refine wp_seq_k fun K3 hK3 => ?_
  refine wp_seq_k fun K6 hK6 => ?_
  refine wp_region_lit ?_
  refine st_val hS rfl rfl (by decide) (rv_move (hS.ev rfl)) fun a hS => ?_
  refine st_val hS rfl rfl (by decide) (rv_lss (hS.ev rfl) (hS.ev rfl)) fun a hS => ?_
  refine wpList_nil ?_
  refine hK6 _ _ ?_
  rcases ite_some hF with ⟨hc, hF⟩ | ⟨hc, hF⟩
  · refine cond_t hS rfl hc ?_
    refine wp_seq_k fun K7 hK7 => ?_
    refine wp_region_lit ?_
    refine st_val hS rfl rfl (by decide) (rv_assign (hS.ev rfl)) fun a hS => ?_
    refine wpList_nil ?_
    refine hK7 _ _ ?_
    refine wp_ret ?_
    cases hF
    exact hQr _ _ (r_1 hS rfl rfl ⟨rfl, hM.pick [] (by decide) rfl⟩)
  · refine cond_f hS rfl hc ?_
    refine wp_skip ?_
    refine hK3 _ _ ?_
    refine wp_seq_k fun K8 hK8 => ?_
    refine wp_region_lit ?_
    refine st_val hS rfl rfl (by decide) (rv_move (hS.ev rfl)) fun a hS => ?_
    refine st_val hS rfl rfl (by decide) (rv_assign (hS.ev rfl)) fun a hS => ?_
    refine wpList_nil ?_
    refine hK8 _ _ ?_
    refine wp_ret ?_
    cases hF
    exact hQr _ _ (r_1 hS rfl rfl ⟨rfl, hM.pick [] (by decide) rfl⟩)


theorem c_laws_szGraph (F : Nat) (p0_a_Size : Int) (p0_a_Rows : List Int) (p1_left : Int) (p0_a_Rowsv : Value) {r : Int} (hF : S_laws_szGraph F p0_a_Size p0_a_Rows p1_left = some r) (w0 : World) (h0 : RdRow w0 p0_a_Rowsv (List.map (Value.int IntKind.i64) p0_a_Rows)) :
    Calls Tryd.prog 25 [(Value.agg #[(Value.int IntKind.i64 p0_a_Size), p0_a_Rowsv]), (Value.int IntKind.i64 p1_left)].toArray w0 (retPost fun v w' => v = (Value.int IntKind.i64 r) ∧ Mem Nob w0 w' []) := by
  have hM : Mem Nob w0 w0 [(false, rd p0_a_Rowsv (List.map (Value.int IntKind.i64) p0_a_Rows))] := (Mem.rcons (Mem.nil w0) h0 (by simp))
  refine enter2 Tryd.func25 rfl rfl rfl fun Q a hQr hQn hQp hS => ?_
  have hS : Sl 12 [(0, (Value.agg #[(Value.int IntKind.i64 p0_a_Size), p0_a_Rowsv])), (1, (Value.int IntKind.i64 p1_left))] a := hS
  unfold S_laws_szGraph at hF
  refine wp_seq_k fun K1 hK1 => ?_
  refine wp_region_lit ?_
  obtain ⟨b3, w, hr, hM⟩ := hM.boxE (ρ := a.eval) (dst := some 2) (ty := _) (pos := _) (af := _) (gd := _) (x := .tmp 0) (T := 40) [(Value.int IntKind.i64 p0_a_Size), p0_a_Rowsv] (hS.ev rfl) rfl
  refine st_val hS rfl rfl (by decide) hr fun a hS => ?_
  refine st_val hS rfl rfl (by decide) (rv_assign (hS.ev rfl)) fun a hS => ?_
  refine wpList_nil ?_
  refine hK1 _ _ ?_
  refine wp_seq_k fun K4 hK4 => ?_
  refine wp_region_lit ?_
  refine st_val hS rfl rfl (by decide) (rv_fieldAddr ty_fd_40_1 (hS.ev rfl)) fun a hS => ?_
  refine st_val hS rfl rfl (by decide) (rv_load_bx (hS.ev rfl) ty_ag_38 (hM.get 0 rfl) rfl) fun a hS => ?_
  refine st_val hS rfl rfl (by decide) (rv_move (hS.ev rfl)) fun a hS => ?_
  obtain ⟨r6, hr, hF⟩ := bind_some hF
  refine st_wp hS rfl (wp_call hS rfl rfl (by decide) fn_ok_48 rfl (c_laws_szIntS F p0_a_Rows p1_left p0_a_Rowsv hr _ (hM.get 1 rfl)) fun v w a hK hS => ?_)
  obtain ⟨rfl, hN⟩ := hK
  have hM := hM.fra hN.fr
  refine st_val hS rfl rfl (by decide) (rv_assign (hS.ev rfl)) fun a hS => ?_
  refine wpList_nil ?_
  refine hK4 _ _ ?_
  refine wp_seq_k fun K7 hK7 => ?_
  refine wp_seq_k fun K10 hK10 => ?_
  refine wp_region_lit ?_
  refine st_val hS rfl rfl (by decide) (rv_move (hS.ev rfl)) fun a hS => ?_
  refine st_val hS rfl rfl (by decide) (rv_lss (hS.ev rfl) (hS.ev rfl)) fun a hS => ?_
  refine wpList_nil ?_
  refine hK10 _ _ ?_
  rcases ite_some hF with ⟨hc, hF⟩ | ⟨hc, hF⟩
  · refine cond_t hS rfl hc ?_
    refine wp_seq_k fun K11 hK11 => ?_
    refine wp_region_lit ?_
    refine st_val hS rfl rfl (by decide) (rv_assign (hS.ev rfl)) fun a hS => ?_
    refine wpList_nil ?_
    refine hK11 _ _ ?_
    refine wp_ret ?_
    cases hF
    exact hQr _ _ (r_1 hS rfl rfl ⟨rfl, hM.pick [] (by decide) rfl⟩)
  · refine cond_f hS rfl hc ?_
    refine wp_skip ?_
    refine hK7 _ _ ?_
    refine wp_seq_k fun K12 hK12 => ?_
    refine wp_region_lit ?_
    refine st_val hS rfl rfl (by decide) (rv_move (hS.ev rfl)) fun a hS => ?_
    refine st_val hS rfl rfl (by decide) (rv_assign (hS.ev rfl)) fun a hS => ?_
    refine wpList_nil ?_
    refine hK12 _ _ ?_
    refine wp_ret ?_
    cases hF
    exact hQr _ _ (r_1 hS rfl rfl ⟨rfl, hM.pick [] (by decide) rfl⟩)


theorem c_spec_IsGraph (F : Nat) (p0_g_Size : Int) (p0_g_Rows : List Int) (p0_g_Rowsv : Value) {r : Bool} (hF : S_spec_IsGraph F p0_g_Size p0_g_Rows = some r) (w0 : World) (h0 : RdRow w0 p0_g_Rowsv (List.map (Value.int IntKind.i64) p0_g_Rows)) :
    Calls Tryd.prog 49 [(Value.agg #[(Value.int IntKind.i64 p0_g_Size), p0_g_Rowsv])].toArray w0 (retPost fun v w' => v = (Value.bool r) ∧ Mem Nob w0 w' []) := by
  have hM : Mem Nob w0 w0 [(false, rd p0_g_Rowsv (List.map (Value.int IntKind.i64) p0_g_Rows))] := (Mem.rcons (Mem.nil w0) h0 (by simp))
  refine enter2 Tryd.func49 rfl rfl rfl fun Q a hQr hQn hQp hS => ?_
  have hS : Sl 96 [(0, (Value.agg #[(Value.int IntKind.i64 p0_g_Size), p0_g_Rowsv]))] a := hS
  unfold S_spec_IsGraph at hF
  refine wp_seq_k fun K1 hK1 => ?_
  refine wp_region_lit ?_
  obtain ⟨b3, w, hr, hM⟩ := hM.boxE (ρ := a.eval) (dst := some 1) (ty := _) (pos := _) (af := _) (gd := _) (x := .tmp 0) (T := 43) [(Value.int IntKind.i64 p0_g_Size), p0_g_Rowsv] (hS.ev rfl) rfl
  refine st_val hS rfl rfl (by decide) hr fun a hS => ?_
  refine st_val hS rfl rfl (by decide) (rv_assign (hS.ev rfl)) fun a hS => ?_
  refine wpList_nil ?_
  refine hK1 _ _ ?_
  refine wp_seq_k fun K4 hK4 => ?_
  refine wp_seq_k fun K10 hK10 => ?_
  have hJ1 : ∀ (p12 : Bool) (a : Act) (w : World), Sl 96 [(1, (fdp b3 0)), (16, (Value.bool p12))] a → Mem Nob w0 w [(true, bx b3 43 [(Value.int IntKind.i64 p0_g_Size), p0_g_Rowsv]), (false, rd p0_g_Rowsv (List.map (Value.int IntKind.i64) p0_g_Rows))] → S_spec_IsGraph_j1 F p0_g_Size p0_g_Rows p12 = some r → K10 a w := by
    intro p12 a w hS hM hF
    unfold S_spec_IsGraph_j1 at hF
    refine hK10 _ _ ?_
    rcases ite_some hF with ⟨hc, hF⟩ | ⟨hc, hF⟩
    · refine cond_t hS rfl hc ?_
      refine wp_seq_k fun K13 hK13 => ?_
      refine wp_region_lit ?_
      refine st_val hS rfl rfl (by decide) (rv_assign (hS.ev rfl)) fun a hS => ?_
      refine wpList_nil ?_
      refine hK13 _ _ ?_
      refine wp_ret ?_
      cases hF
      exact hQr _ _ (r_1 hS rfl rfl ⟨rfl, hM.pick [] (by decide) rfl⟩)
    · refine cond_f hS rfl hc ?_
      refine wp_skip ?_
      refine hK4 _ _ ?_
      refine wp_seq_k fun K14 hK14 => ?_
      have hJ2 : ∀ (a : Act) (w : World), Sl 96 [] a → Mem Nob w0 w [] → S_spec_IsGraph_j2 F = some r → K14 a w := by
        intro a w hS hM hF
        unfold S_spec_IsGraph_j2 at hF
        refine hK14 _ _ ?_
        refine wp_seq_k fun K317 hK317 => ?_
        refine wp_region_lit ?_
        refine st_val hS rfl rfl (by decide) (rv_assign (hS.ev rfl)) fun a hS => ?_
        refine wpList_nil ?_
        refine hK317 _ _ ?_
        refine wp_ret ?_
        cases hF
        exact hQr _ _ (r_1 hS rfl rfl ⟨rfl, hM.pick [] (by decide) rfl⟩)
      refine wp_seq_k fun K318 hK318 => ?_
      refine wp_region_lit ?_
      refine st_val hS rfl rfl (by decide) (rv_assign (hS.ev rfl)) fun a hS => ?_
      refine wpList_nil ?_
      refine hK318 _ _ ?_
      refine wp_block ?_
      obtain ⟨lb3, hl3, hF3⟩ := bind_some hF
      refine wp_loop_sh (fun s => S_spec_IsGraph_l3 F p0_g_Size p0_g_Rows s) (fun s a w => Sl 96 [(1, (fdp b3 0)), (3, (Value.int IntKind.i64 s))] a ∧ Mem Nob w0 w [(true, bx b3 43 [(Value.int IntKind.i64 p0_g_Size), p0_g_Rowsv]), (false, rd p0_g_Rowsv (List.map (Value.int IntKind.i64) p0_g_Rows))]) hl3 ⟨(hS.sub (sub_cons rfl (sub_cons rfl sub_nil))), (hM.pick [0, 1] (by decide) rfl)⟩ ?_
      rintro K3 x319 a w res3 ⟨hS, hM⟩ hF hN3 hX3
      have hF : S_spec_IsGraph_l3 F p0_g_Size p0_g_Rows x319 = some res3 := hF
      have hS : Sl 96 [(1, (fdp b3 0)), (3, (Value.int IntKind.i64 x319))] a := hS
      have hM : Mem Nob w0 w [(true, bx b3 43 [(Value.int IntKind.i64 p0_g_Size), p0_g_Rowsv]), (false, rd p0_g_Rowsv (List.map (Value.int IntKind.i64) p0_g_Rows))] := hM
      unfold S_spec_IsGraph_l3 at hF
      refine wp_seq_k fun K470 hK470 => ?_
      refine wp_seq_k fun K472 hK472 => ?_
      refine wp_region_lit ?_
      refine st_val hS rfl rfl (by decide) (rv_move (hS.ev rfl)) fun a hS => ?_
      refine st_val hS rfl rfl (by decide) (rv_fieldAddr ty_fd_43_0 (hS.ev rfl)) fun a hS => ?_
      refine st_val hS rfl rfl (by decide) (rv_load_bx (hS.ev rfl) ty_ag_3 (hM.get 0 rfl) rfl) fun a hS => ?_
      refine st_val hS rfl rfl (by decide) (rv_lss (hS.ev rfl) (hS.ev rfl)) fun a hS => ?_
      refine wpList_nil ?_
      refine hK472 _ _ ?_
      rcases ite_some hF with ⟨hc, hF⟩ | ⟨hc, hF⟩
      · refine cond_t hS rfl hc ?_
        refine wp_skip ?_
        refine hK470 _ _ ?_
        refine wp_seq_k fun K473 hK473 => ?_
        have hJ4 : ∀ (a : Act) (w : World), Sl 96 [(1, (fdp b3 0)), (3, (Value.int IntKind.i64 x319))] a → Mem Nob w0 w [(true, bx b3 43 [(Value.int IntKind.i64 p0_g_Size), p0_g_Rowsv]), (false, rd p0_g_Rowsv (List.map (Value.int IntKind.i64) p0_g_Rows))] → S_spec_IsGraph_j4 F x319 = some res3 → K473 a w := by
          intro a w hS hM hF
          unfold S_spec_IsGraph_j4 at hF
          refine hK473 _ _ ?_
          refine wp_region_lit ?_
          refine st_val hS rfl rfl (by decide) (rv_move (hS.ev rfl)) fun a hS => ?_
          refine st_val hS rfl rfl (by decide) (rv_add (hS.ev rfl) (hS.ev rfl)) fun a hS => ?_
          refine st_val hS rfl rfl (by decide) (rv_assign (hS.ev rfl)) fun a hS => ?_
          refine wpList_nil ?_
          cases hF
          exact hN3 _ _ _ rfl ⟨(hS.sub (sub_cons rfl (sub_cons rfl sub_nil))), (hM.pick [0, 1] (by decide) rfl)⟩
        refine wp_block ?_
        refine wp_seq_k fun K547 hK547 => ?_
        refine wp_seq_k fun K557 hK557 => ?_
        have hJ5 : ∀ (p561 : Bool) (a : Act) (w : World), Sl 96 [(1, (fdp b3 0)), (3, (Value.int IntKind.i64 x319)), (50, (Value.bool p561))] a → Mem Nob w0 w [(true, bx b3 43 [(Value.int IntKind.i64 p0_g_Size), p0_g_Rowsv]), (false, rd p0_g_Rowsv (List.map (Value.int IntKind.i64) p0_g_Rows))] → S_spec_IsGraph_j5 F p0_g_Size p0_g_Rows x319 p561 = some res3 → K557 a w := by
          intro p561 a w hS hM hF
          unfold S_spec_IsGraph_j5 at hF
          refine hK557 _ _ ?_
          rcases ite_some hF with ⟨hc, hF⟩ | ⟨hc, hF⟩
          · refine cond_t hS rfl hc ?_
            refine wp_seq_k fun K562 hK562 => ?_
            refine wp_region_lit ?_
            refine st_val hS rfl rfl (by decide) (rv_assign (hS.ev rfl)) fun a hS => ?_
            refine wpList_nil ?_
            refine hK562 _ _ ?_
            refine wp_ret ?_
            cases hF
            have e := hX3 _ rfl
            subst e
            have hF := hF3
            cases hF
            exact hQr _ _ (r_1 hS rfl rfl ⟨rfl, hM.pick [] (by decide) rfl⟩)
          · refine cond_f hS rfl hc ?_
            refine wp_skip ?_
            refine hK547 _ _ ?_
            refine wp_seq_k fun K563 hK563 => ?_
            refine wp_region_lit ?_
            refine st_val hS rfl rfl (by decide) (rv_assign (hS.ev rfl)) fun a hS => ?_
            refine wpList_nil ?_
            refine hK563 _ _ ?_
            refine wp_block ?_
            obtain ⟨lb6, hl6, hF6⟩ := bind_some hF
            refine wp_loop_sh (fun s => S_spec_IsGraph_l6 F p0_g_Size p0_g_Rows x319 s) (fun s a w => Sl 96 [(1, (fdp b3 0)), (3, (Value.int IntKind.i64 x319)), (4, (Value.int IntKind.i64 s))] a ∧ Mem Nob w0 w [(true, bx b3 43 [(Value.int IntKind.i64 p0_g_Size), p0_g_Rowsv]), (false, rd p0_g_Rowsv (List.map (Value.int IntKind.i64) p0_g_Rows))]) hl6 ⟨(hS.sub (sub_cons rfl (sub_cons rfl (sub_cons rfl sub_nil)))), (hM.pick [0, 1] (by decide) rfl)⟩ ?_
            rintro K6 x564 a w res6 ⟨hS, hM⟩ hF hN6 hX6
            have hF : S_spec_IsGraph_l6 F p0_g_Size p0_g_Rows x319 x564 = some res6 := hF
            have hS : Sl 96 [(1, (fdp b3 0)), (3, (Value.int IntKind.i64 x319)), (4, (Value.int IntKind.i64 x564))] a := hS
            have hM : Mem Nob w0 w [(true, bx b3 43 [(Value.int IntKind.i64 p0_g_Size), p0_g_Rowsv]), (false, rd p0_g_Rowsv (List.map (Value.int IntKind.i64) p0_g_Rows))] := hM
            unfold S_spec_IsGraph_l6 at hF
            refine wp_seq_k fun K591 hK591 => ?_
            refine wp_seq_k fun K593 hK593 => ?_
            refine wp_region_lit ?_
            refine st_val hS rfl rfl (by decide) (rv_move (hS.ev rfl)) fun a hS => ?_
            refine st_val hS rfl rfl (by decide) (rv_fieldAddr ty_fd_43_0 (hS.ev rfl)) fun a hS => ?_
            refine st_val hS rfl rfl (by decide) (rv_load_bx (hS.ev rfl) ty_ag_3 (hM.get 0 rfl) rfl) fun a hS => ?_
            refine st_val hS rfl rfl (by decide) (rv_lss (hS.ev rfl) (hS.ev rfl)) fun a hS => ?_
            refine wpList_nil ?_
            refine hK593 _ _ ?_
            rcases ite_some hF with ⟨hc, hF⟩ | ⟨hc, hF⟩
            · refine cond_t hS rfl hc ?_
              refine wp_skip ?_
              refine hK591 _ _ ?_
              refine wp_seq_k fun K594 hK594 => ?_
              refine wp_block ?_
              refine wp_seq_k fun K606 hK606 => ?_
              have hJ7 : ∀ (p611 : Bool) (a : Act) (w : World), Sl 96 [(1, (fdp b3 0)), (3, (Value.int IntKind.i64 x319)), (4, (Value.int IntKind.i64 x564)), (95, (Value.bool p611))] a → Mem Nob w0 w [(true, bx b3 43 [(Value.int IntKind.i64 p0_g_Size), p0_g_Rowsv]), (false, rd p0_g_Rowsv (List.map (Value.int IntKind.i64) p0_g_Rows))] → S_spec_IsGraph_j7 F x564 p611 = some res6 → K606 a w := by
                intro p611 a w hS hM hF
                unfold S_spec_IsGraph_j7 at hF
                refine hK606 _ _ ?_
                rcases ite_some hF with ⟨hc, hF⟩ | ⟨hc, hF⟩
                · refine cond_t hS rfl hc ?_
                  refine wp_seq_k fun K612 hK612 => ?_
                  refine wp_region_lit ?_
                  refine st_val hS rfl rfl (by decide) (rv_assign (hS.ev rfl)) fun a hS => ?_
                  refine wpList_nil ?_
                  refine hK612 _ _ ?_
                  refine wp_ret ?_
                  cases hF
                  have e := hX6 _ rfl
                  subst e
                  have hF := hF6
                  cases hF
                  have e := hX3 _ rfl
                  subst e
                  have hF := hF3
                  cases hF
                  exact hQr _ _ (r_1 hS rfl rfl ⟨rfl, hM.pick [] (by decide) rfl⟩)
                · refine cond_f hS rfl hc ?_
                  refine wp_skip ?_
                  refine hK594 _ _ ?_
                  refine wp_region_lit ?_
                  refine st_val hS rfl rfl (by decide) (rv_move (hS.ev rfl)) fun a hS => ?_
                  refine st_val hS rfl rfl (by decide) (rv_add (hS.ev rfl) (hS.ev rfl)) fun a hS => ?_
                  refine st_val hS rfl rfl (by decide) (rv_assign (hS.ev rfl)) fun a hS => ?_
                  refine wpList_nil ?_
                  cases hF
                  exact hN6 _ _ _ rfl ⟨(hS.sub (sub_cons rfl (sub_cons rfl (sub_cons rfl sub_nil)))), (hM.pick [0, 1] (by decide) rfl)⟩
              refine an_start Nob ty_mixed fun w hf => ?_
              have hM := hM.fra hf
              have hB := hM
              have hM := hB.reg0
              refine an_take hS (i := 0) rfl (by kernel_rfl) (by kernel_rfl) (by kernel_rfl) rfl (by decide) (fun c a a' w hd h => hQp c a a' w hd h) rfl (fun w' hC' => (rv_fieldAddr ty_fd_43_1 (hS.ev rfl))) hM.fr fun a hS => ?_
              refine an_take hS (i := 1) rfl (by kernel_rfl) (by kernel_rfl) (by kernel_rfl) rfl (by decide) (fun c a a' w hd h => hQp c a a' w hd h) rfl (fun w' hC' => (rv_load_bx (hS.ev rfl) ty_ag_38 ((hB.fra hC').get 0 rfl) rfl)) hM.fr fun a hS => ?_
              refine an_take hS (i := 2) rfl (by kernel_rfl) (by kernel_rfl) (by kernel_rfl) rfl (by decide) (fun c a a' w hd h => hQp c a a' w hd h) rfl (fun w' hC' => (rv_move (hS.ev rfl))) hM.fr fun a hS => ?_
              obtain ⟨x613, hx, hF⟩ := bind_some hF
              obtain ⟨hi0, hi1, hex613⟩ := idxL_some hx
              refine an_take hS (i := 3) rfl (by kernel_rfl) (by kernel_rfl) (by kernel_rfl) rfl (by decide) (fun c a a' w hd h => hQp c a a' w hd h) rfl (fun w' hC' => (rv_indexAddr Tryd.underlying38 ty_el_3 (hS.ev rfl) (hS.ev rfl) (hM.get 1 rfl) hi0 (map_len hi1))) hM.fr fun a hS => ?_
              refine an_take hS (i := 4) rfl (by kernel_rfl) (by kernel_rfl) (by kernel_rfl) rfl (by decide) (fun c a a' w hd h => hQp c a a' w hd h) rfl (fun w' hC' => (rv_load_el (hS.ev rfl) ty_ag_3 ((hB.fra hC').get 1 rfl) (mget hex613))) hM.fr fun a hS => ?_
              refine an_take hS (i := 5) rfl (by kernel_rfl) (by kernel_rfl) (by kernel_rfl) rfl (by decide) (fun c a a' w hd h => hQp c a a' w hd h) rfl (fun w' hC' => (rv_move (hS.ev rfl))) hM.fr fun a hS => ?_
              obtain ⟨_, hx, hF⟩ := bind_some hF
              have hi0 := nnO_some hx
              refine an_take hS (i := 6) rfl (by kernel_rfl) (by kernel_rfl) (by kernel_rfl) rfl (by decide) (fun c a a' w hd h => hQp c a a' w hd h) rfl (fun w' hC' => (rv_shr (hS.ev rfl) (hS.ev rfl) hi0)) hM.fr fun a hS => ?_
              refine an_take hS (i := 7) rfl (by kernel_rfl) (by kernel_rfl) (by kernel_rfl) rfl (by decide) (fun c a a' w hd h => hQp c a a' w hd h) rfl (fun w' hC' => (rv_and (hS.ev rfl) (hS.ev rfl))) hM.fr fun a hS => ?_
              refine an_take hS (i := 8) rfl (by kernel_rfl) (by kernel_rfl) (by kernel_rfl) rfl (by decide) (fun c a a' w hd h => hQp c a a' w hd h) rfl (fun w' hC' => (rv_eql (hS.ev rfl) (hS.ev rfl))) hM.fr fun a hS => ?_
              refine an_take hS (i := 9) rfl (by kernel_rfl) (by kernel_rfl) (by kernel_rfl) rfl (by decide) (fun c a a' w hd h => hQp c a a' w hd h) rfl (fun w' hC' => (rv_move (hS.ev rfl))) hM.fr fun a hS => ?_
              rcases ite_some hF with ⟨hc, hF⟩ | ⟨hc, hF⟩
              · have hS := hS.setb (t := 66) rfl hc
                refine an_take hS (i := 10) rfl (by kernel_rfl) (by kernel_rfl) (by kernel_rfl) rfl (by decide) (fun c a a' w hd h => hQp c a a' w hd h) rfl (fun w' hC' => (rv_fieldAddr ty_fd_43_1 (hS.ev rfl))) hM.fr fun a hS => ?_
                refine an_take hS (i := 11) rfl (by kernel_rfl) (by kernel_rfl) (by kernel_rfl) rfl (by decide) (fun c a a' w hd h => hQp c a a' w hd h) rfl (fun w' hC' => (rv_load_bx (hS.ev rfl) ty_ag_38 ((hB.fra hC').get 0 rfl) rfl)) hM.fr fun a hS => ?_
                refine an_take hS (i := 12) rfl (by kernel_rfl) (by kernel_rfl) (by kernel_rfl) rfl (by decide) (fun c a a' w hd h => hQp c a a' w hd h) rfl (fun w' hC' => (rv_move (hS.ev rfl))) hM.fr fun a hS => ?_
                obtain ⟨x614, hx, hF⟩ := bind_some hF
                obtain ⟨hi0, hi1, hex614⟩ := idxL_some hx
                refine an_take hS (i := 13) rfl (by kernel_rfl) (by kernel_rfl) (by kernel_rfl) rfl (by decide) (fun c a a' w hd h => hQp c a a' w hd h) rfl (fun w' hC' => (rv_indexAddr Tryd.underlying38 ty_el_3 (hS.ev rfl) (hS.ev rfl) (hM.get 1 rfl) hi0 (map_len hi1))) hM.fr fun a hS => ?_
                refine an_take hS (i := 14) rfl (by kernel_rfl) (by kernel_rfl) (by kernel_rfl) rfl (by decide) (fun c a a' w hd h => hQp c a a' w hd h) rfl (fun w' hC' => (rv_load_el (hS.ev rfl) ty_ag_3 ((hB.fra hC').get 1 rfl) (mget hex614))) hM.fr fun a hS => ?_
                refine an_take hS (i := 15) rfl (by kernel_rfl) (by kernel_rfl) (by kernel_rfl) rfl (by decide) (fun c a a' w hd h => hQp c a a' w hd h) rfl (fun w' hC' => (rv_lss (hS.ev rfl) (hS.ev rfl))) hM.fr fun a hS => ?_
                refine an_take hS (i := 16) rfl (by kernel_rfl) (by kernel_rfl) (by kernel_rfl) rfl (by decide) (fun c a a' w hd h => hQp c a a' w hd h) rfl (fun w' hC' => (rv_move (hS.ev rfl))) hM.fr fun a hS => ?_
                rcases ite_some hF with ⟨hc, hF⟩ | ⟨hc, hF⟩
                · have hS := hS.setb (t := 73) rfl hc
                  refine an_skip hS (i := 17) rfl (by kernel_rfl) (by kernel_rfl) (by kernel_rfl) rfl (by decide) (fun c a a' w hd h => hQp c a a' w hd h) rfl hM.fr fun a hS => ?_
                  refine an_skip hS (i := 18) rfl (by kernel_rfl) (by kernel_rfl) (by kernel_rfl) rfl (by decide) (fun c a a' w hd h => hQp c a a' w hd h) rfl hM.fr fun a hS => ?_
                  refine an_skip hS (i := 19) rfl (by kernel_rfl) (by kernel_rfl) (by kernel_rfl) rfl (by decide) (fun c a a' w hd h => hQp c a a' w hd h) rfl hM.fr fun a hS => ?_
                  refine an_skip hS (i := 20) rfl (by kernel_rfl) (by kernel_rfl) (by kernel_rfl) rfl (by decide) (fun c a a' w hd h => hQp c a a' w hd h) rfl hM.fr fun a hS => ?_
                  refine an_skip hS (i := 21) rfl (by kernel_rfl) (by kernel_rfl) (by kernel_rfl) rfl (by decide) (fun c a a' w hd h => hQp c a a' w hd h) rfl hM.fr fun a hS => ?_
                  refine an_skip hS (i := 22) rfl (by kernel_rfl) (by kernel_rfl) (by kernel_rfl) rfl (by decide) (fun c a a' w hd h => hQp c a a' w hd h) rfl hM.fr fun a hS => ?_
                  refine an_skip hS (i := 23) rfl (by kernel_rfl) (by kernel_rfl) (by kernel_rfl) rfl (by decide) (fun c a a' w hd h => hQp c a a' w hd h) rfl hM.fr fun a hS => ?_
                  refine an_skip hS (i := 24) rfl (by kernel_rfl) (by kernel_rfl) (by kernel_rfl) rfl (by decide) (fun c a a' w hd h => hQp c a a' w hd h) rfl hM.fr fun a hS => ?_
                  refine an_skip hS (i := 25) rfl (by kernel_rfl) (by kernel_rfl) (by kernel_rfl) rfl (by decide) (fun c a a' w hd h => hQp c a a' w hd h) rfl hM.fr fun a hS => ?_
                  refine an_take hS (i := 26) rfl (by kernel_rfl) (by kernel_rfl) (by kernel_rfl) rfl (by decide) (fun c a a' w hd h => hQp c a a' w hd h) rfl (fun w' hC' => (rv_pick_t (hS.ev rfl) (hS.ev rfl))) hM.fr fun a hS => ?_
                  refine an_take hS (i := 27) rfl (by kernel_rfl) (by kernel_rfl) (by kernel_rfl) rfl (by decide) (fun c a a' w hd h => hQp c a a' w hd h) rfl (fun w' hC' => (rv_move (hS.ev rfl))) hM.fr fun a hS => ?_
                  refine an_skip hS (i := 28) rfl (by kernel_rfl) (by kernel_rfl) (by kernel_rfl) rfl (by decide) (fun c a a' w hd h => hQp c a a' w hd h) rfl hM.fr fun a hS => ?_
                  refine an_skip hS (i := 29) rfl (by kernel_rfl) (by kernel_rfl) (by kernel_rfl) rfl (by decide) (fun c a a' w hd h => hQp c a a' w hd h) rfl hM.fr fun a hS => ?_
                  refine an_skip hS (i := 30) rfl (by kernel_rfl) (by kernel_rfl) (by kernel_rfl) rfl (by decide) (fun c a a' w hd h => hQp c a a' w hd h) rfl hM.fr fun a hS => ?_
                  refine an_skip hS (i := 31) rfl (by kernel_rfl) (by kernel_rfl) (by kernel_rfl) rfl (by decide) (fun c a a' w hd h => hQp c a a' w hd h) rfl hM.fr fun a hS => ?_
                  refine an_skip hS (i := 32) rfl (by kernel_rfl) (by kernel_rfl) (by kernel_rfl) rfl (by decide) (fun c a a' w hd h => hQp c a a' w hd h) rfl hM.fr fun a hS => ?_
                  refine an_skip hS (i := 33) rfl (by kernel_rfl) (by kernel_rfl) (by kernel_rfl) rfl (by decide) (fun c a a' w hd h => hQp c a a' w hd h) rfl hM.fr fun a hS => ?_
                  refine an_skip hS (i := 34) rfl (by kernel_rfl) (by kernel_rfl) (by kernel_rfl) rfl (by decide) (fun c a a' w hd h => hQp c a a' w hd h) rfl hM.fr fun a hS => ?_
                  refine an_skip hS (i := 35) rfl (by kernel_rfl) (by kernel_rfl) (by kernel_rfl) rfl (by decide) (fun c a a' w hd h => hQp c a a' w hd h) rfl hM.fr fun a hS => ?_
                  refine an_skip hS (i := 36) rfl (by kernel_rfl) (by kernel_rfl) (by kernel_rfl) rfl (by decide) (fun c a a' w hd h => hQp c a a' w hd h) rfl hM.fr fun a hS => ?_
                  refine an_take hS (i := 37) rfl (by kernel_rfl) (by kernel_rfl) (by kernel_rfl) rfl (by decide) (fun c a a' w hd h => hQp c a a' w hd h) rfl (fun w' hC' => (rv_pick_t (hS.ev rfl) (hS.ev rfl))) hM.fr fun a hS => ?_
                  refine an_take hS (i := 38) rfl (by kernel_rfl) (by kernel_rfl) (by kernel_rfl) rfl (by decide) (fun c a a' w hd h => hQp c a a' w hd h) rfl (fun w' hC' => (rv_pick_t (hS.ev rfl) (hS.ev rfl))) hM.fr fun a hS => ?_
                  refine an_done (by kernel_rfl) ?_
                  have hN := hM.pick [] (by decide) rfl
                  have hM := Mem.callo (A := []) (B := [(true, bx b3 43 [(Value.int IntKind.i64 p0_g_Size), p0_g_Rowsv]), (false, rd p0_g_Rowsv (List.map (Value.int IntKind.i64) p0_g_Rows))]) hB rfl (hN.memS fun _ h => h.elim) rfl
                  exact hJ7 true _ _ (hS.sub (sub_cons rfl (sub_cons rfl (sub_cons rfl (sub_cons rfl sub_nil))))) (hM.pick [0, 1] (by decide) rfl) hF
                · have hS := hS.setb (t := 73) rfl hc
                  refine an_take hS (i := 17) rfl (by kernel_rfl) (by kernel_rfl) (by kernel_rfl) rfl (by decide) (fun c a a' w hd h => hQp c a a' w hd h) rfl (fun w' hC' => (rv_fieldAddr ty_fd_43_1 (hS.ev rfl))) hM.fr fun a hS => ?_
                  refine an_take hS (i := 18) rfl (by kernel_rfl) (by kernel_rfl) (by kernel_rfl) rfl (by decide) (fun c a a' w hd h => hQp c a a' w hd h) rfl (fun w' hC' => (rv_load_bx (hS.ev rfl) ty_ag_38 ((hB.fra hC').get 0 rfl) rfl)) hM.fr fun a hS => ?_
                  refine an_take hS (i := 19) rfl (by kernel_rfl) (by kernel_rfl) (by kernel_rfl) rfl (by decide) (fun c a a' w hd h => hQp c a a' w hd h) rfl (fun w' hC' => (rv_move (hS.ev rfl))) hM.fr fun a hS => ?_
                  obtain ⟨x615, hx, hF⟩ := bind_some hF
                  obtain ⟨hi0, hi1, hex615⟩ := idxL_some hx
                  refine an_take hS (i := 20) rfl (by kernel_rfl) (by kernel_rfl) (by kernel_rfl) rfl (by decide) (fun c a a' w hd h => hQp c a a' w hd h) rfl (fun w' hC' => (rv_indexAddr Tryd.underlying38 ty_el_3 (hS.ev rfl) (hS.ev rfl) (hM.get 1 rfl) hi0 (map_len hi1))) hM.fr fun a hS => ?_
                  refine an_take hS (i := 21) rfl (by kernel_rfl) (by kernel_rfl) (by kernel_rfl) rfl (by decide) (fun c a a' w hd h => hQp c a a' w hd h) rfl (fun w' hC' => (rv_load_el (hS.ev rfl) ty_ag_3 ((hB.fra hC').get 1 rfl) (mget hex615))) hM.fr fun a hS => ?_
                  refine an_take hS (i := 22) rfl (by kernel_rfl) (by kernel_rfl) (by kernel_rfl) rfl (by decide) (fun c a a' w hd h => hQp c a a' w hd h) rfl (fun w' hC' => (rv_fieldAddr ty_fd_43_0 (hS.ev rfl))) hM.fr fun a hS => ?_
                  refine an_take hS (i := 23) rfl (by kernel_rfl) (by kernel_rfl) (by kernel_rfl) rfl (by decide) (fun c a a' w hd h => hQp c a a' w hd h) rfl (fun w' hC' => (rv_load_bx (hS.ev rfl) ty_ag_3 ((hB.fra hC').get 0 rfl) rfl)) hM.fr fun a hS => ?_
                  obtain ⟨_, hx, hF⟩ := bind_some hF
                  have hi0 := nnO_some hx
                  refine an_take hS (i := 24) rfl (by kernel_rfl) (by kernel_rfl) (by kernel_rfl) rfl (by decide) (fun c a a' w hd h => hQp c a a' w hd h) rfl (fun w' hC' => (rv_shl (hS.ev rfl) (hS.ev rfl) hi0)) hM.fr fun a hS => ?_
                  refine an_take hS (i := 25) rfl (by kernel_rfl) (by kernel_rfl) (by kernel_rfl) rfl (by decide) (fun c a a' w hd h => hQp c a a' w hd h) rfl (fun w' hC' => (rv_geq (hS.ev rfl) (hS.ev rfl))) hM.fr fun a hS => ?_
                  refine an_take hS (i := 26) rfl (by kernel_rfl) (by kernel_rfl) (by kernel_rfl) rfl (by decide) (fun c a a' w hd h => hQp c a a' w hd h) rfl (fun w' hC' => (rv_pick_f (hS.ev rfl) (hS.ev rfl))) hM.fr fun a hS => ?_
                  refine an_take hS (i := 27) rfl (by kernel_rfl) (by kernel_rfl) (by kernel_rfl) rfl (by decide) (fun c a a' w hd h => hQp c a a' w hd h) rfl (fun w' hC' => (rv_move (hS.ev rfl))) hM.fr fun a hS => ?_
                  rcases ite_some hF with ⟨hc, hF⟩ | ⟨hc, hF⟩
                  · have hS := hS.setb (t := 84) rfl hc
                    refine an_skip hS (i := 28) rfl (by kernel_rfl) (by kernel_rfl) (by kernel_rfl) rfl (by decide) (fun c a a' w hd h => hQp c a a' w hd h) rfl hM.fr fun a hS => ?_
                    refine an_skip hS (i := 29) rfl (by kernel_rfl) (by kernel_rfl) (by kernel_rfl) rfl (by decide) (fun c a a' w hd h => hQp c a a' w hd h) rfl hM.fr fun a hS => ?_
                    refine an_skip hS (i := 30) rfl (by kernel_rfl) (by kernel_rfl) (by kernel_rfl) rfl (by decide) (fun c a a' w hd h => hQp c a a' w hd h) rfl hM.fr fun a hS => ?_
                    refine an_skip hS (i := 31) rfl (by kernel_rfl) (by kernel_rfl) (by kernel_rfl) rfl (by decide) (fun c a a' w hd h => hQp c a a' w hd h) rfl hM.fr fun a hS => ?_
                    refine an_skip hS (i := 32) rfl (by kernel_rfl) (by kernel_rfl) (by kernel_rfl) rfl (by decide) (fun c a a' w hd h => hQp c a a' w hd h) rfl hM.fr fun a hS => ?_
                    refine an_skip hS (i := 33) rfl (by kernel_rfl) (by kernel_rfl) (by kernel_rfl) rfl (by decide) (fun c a a' w hd h => hQp c a a' w hd h) rfl hM.fr fun a hS => ?_
                    refine an_skip hS (i := 34) rfl (by kernel_rfl) (by kernel_rfl) (by kernel_rfl) rfl (by decide) (fun c a a' w hd h => hQp c a a' w hd h) rfl hM.fr fun a hS => ?_
                    refine an_skip hS (i := 35) rfl (by kernel_rfl) (by kernel_rfl) (by kernel_rfl) rfl (by decide) (fun c a a' w hd h => hQp c a a' w hd h) rfl hM.fr fun a hS => ?_
                    refine an_skip hS (i := 36) rfl (by kernel_rfl) (by kernel_rfl) (by kernel_rfl) rfl (by decide) (fun c a a' w hd h => hQp c a a' w hd h) rfl hM.fr fun a hS => ?_
                    refine an_take hS (i := 37) rfl (by kernel_rfl) (by kernel_rfl) (by kernel_rfl) rfl (by decide) (fun c a a' w hd h => hQp c a a' w hd h) rfl (fun w' hC' => (rv_pick_t (hS.ev rfl) (hS.ev rfl))) hM.fr fun a hS => ?_
                    refine an_take hS (i := 38) rfl (by kernel_rfl) (by kernel_rfl) (by kernel_rfl) rfl (by decide) (fun c a a' w hd h => hQp c a a' w hd h) rfl (fun w' hC' => (rv_pick_t (hS.ev rfl) (hS.ev rfl))) hM.fr fun a hS => ?_
                    refine an_done (by kernel_rfl) ?_
                    have hN := hM.pick [] (by decide) rfl
                    have hM := Mem.callo (A := []) (B := [(true, bx b3 43 [(Value.int IntKind.i64 p0_g_Size), p0_g_Rowsv]), (false, rd p0_g_Rowsv (List.map (Value.int IntKind.i64) p0_g_Rows))]) hB rfl (hN.memS fun _ h => h.elim) rfl
                    exact hJ7 true _ _ (hS.sub (sub_cons rfl (sub_cons rfl (sub_cons rfl (sub_cons rfl sub_nil))))) (hM.pick [0, 1] (by decide) rfl) hF
                  · have hS := hS.setb (t := 84) rfl hc
                    refine an_take hS (i := 28) rfl (by kernel_rfl) (by kernel_rfl) (by kernel_rfl) rfl (by decide) (fun c a a' w hd h => hQp c a a' w hd h) rfl (fun w' hC' => (rv_fieldAddr ty_fd_43_1 (hS.ev rfl))) hM.fr fun a hS => ?_
                    refine an_take hS (i := 29) rfl (by kernel_rfl) (by kernel_rfl) (by kernel_rfl) rfl (by decide) (fun c a a' w hd h => hQp c a a' w hd h) rfl (fun w' hC' => (rv_load_bx (hS.ev rfl) ty_ag_38 ((hB.fra hC').get 0 rfl) rfl)) hM.fr fun a hS => ?_
                    refine an_take hS (i := 30) rfl (by kernel_rfl) (by kernel_rfl) (by kernel_rfl) rfl (by decide) (fun c a a' w hd h => hQp c a a' w hd h) rfl (fun w' hC' => (rv_move (hS.ev rfl))) hM.fr fun a hS => ?_
                    obtain ⟨x616, hx, hF⟩ := bind_some hF
                    obtain ⟨hi0, hi1, hex616⟩ := idxL_some hx
                    refine an_take hS (i := 31) rfl (by kernel_rfl) (by kernel_rfl) (by kernel_rfl) rfl (by decide) (fun c a a' w hd h => hQp c a a' w hd h) rfl (fun w' hC' => (rv_indexAddr Tryd.underlying38 ty_el_3 (hS.ev rfl) (hS.ev rfl) (hM.get 1 rfl) hi0 (map_len hi1))) hM.fr fun a hS => ?_
                    refine an_take hS (i := 32) rfl (by kernel_rfl) (by kernel_rfl) (by kernel_rfl) rfl (by decide) (fun c a a' w hd h => hQp c a a' w hd h) rfl (fun w' hC' => (rv_load_el (hS.ev rfl) ty_ag_3 ((hB.fra hC').get 1 rfl) (mget hex616))) hM.fr fun a hS => ?_
                    refine an_take hS (i := 33) rfl (by kernel_rfl) (by kernel_rfl) (by kernel_rfl) rfl (by decide) (fun c a a' w hd h => hQp c a a' w hd h) rfl (fun w' hC' => (rv_move (hS.ev rfl))) hM.fr fun a hS => ?_
                    obtain ⟨_, hx, hF⟩ := bind_some hF
                    have hi0 := nnO_some hx
                    refine an_take hS (i := 34) rfl (by kernel_rfl) (by kernel_rfl) (by kernel_rfl) rfl (by decide) (fun c a a' w hd h => hQp c a a' w hd h) rfl (fun w' hC' => (rv_shr (hS.ev rfl) (hS.ev rfl) hi0)) hM.fr fun a hS => ?_
                    refine an_take hS (i := 35) rfl (by kernel_rfl) (by kernel_rfl) (by kernel_rfl) rfl (by decide) (fun c a a' w hd h => hQp c a a' w hd h) rfl (fun w' hC' => (rv_and (hS.ev rfl) (hS.ev rfl))) hM.fr fun a hS => ?_
                    refine an_take hS (i := 36) rfl (by kernel_rfl) (by kernel_rfl) (by kernel_rfl) rfl (by decide) (fun c a a' w hd h => hQp c a a' w hd h) rfl (fun w' hC' => (rv_eql (hS.ev rfl) (hS.ev rfl))) hM.fr fun a hS => ?_
                    refine an_take hS (i := 37) rfl (by kernel_rfl) (by kernel_rfl) (by kernel_rfl) rfl (by decide) (fun c a a' w hd h => hQp c a a' w hd h) rfl (fun w' hC' => (rv_pick_f (hS.ev rfl) (hS.ev rfl))) hM.fr fun a hS => ?_
                    refine an_take hS (i := 38) rfl (by kernel_rfl) (by kernel_rfl) (by kernel_rfl) rfl (by decide) (fun c a a' w hd h => hQp c a a' w hd h) rfl (fun w' hC' => (rv_pick_t (hS.ev rfl) (hS.ev rfl))) hM.fr fun a hS => ?_
                    refine an_done (by kernel_rfl) ?_
                    have hN := hM.pick [] (by decide) rfl
                    have hM := Mem.callo (A := []) (B := [(true, bx b3 43 [(Value.int IntKind.i64 p0_g_Size), p0_g_Rowsv]), (false, rd p0_g_Rowsv (List.map (Value.int IntKind.i64) p0_g_Rows))]) hB rfl (hN.memS fun _ h => h.elim) rfl
                    exact hJ7 ((bAnd (shR x616 x319) 1) == 0) _ _ (hS.sub (sub_cons rfl (sub_cons rfl (sub_cons rfl (sub_cons rfl sub_nil))))) (hM.pick [0, 1] (by decide) rfl) hF
              · have hS := hS.setb (t := 66) rfl hc
                refine an_skip hS (i := 10) rfl (by kernel_rfl) (by kernel_rfl) (by kernel_rfl) rfl (by decide) (fun c a a' w hd h => hQp c a a' w hd h) rfl hM.fr fun a hS => ?_
                refine an_skip hS (i := 11) rfl (by kernel_rfl) (by kernel_rfl) (by kernel_rfl) rfl (by decide) (fun c a a' w hd h => hQp c a a' w hd h) rfl hM.fr fun a hS => ?_
                refine an_skip hS (i := 12) rfl (by kernel_rfl) (by kernel_rfl) (by kernel_rfl) rfl (by decide) (fun c a a' w hd h => hQp c a a' w hd h) rfl hM.fr fun a hS => ?_
                refine an_skip hS (i := 13) rfl (by kernel_rfl) (by kernel_rfl) (by kernel_rfl) rfl (by decide) (fun c a a' w hd h => hQp c a a' w hd h) rfl hM.fr fun a hS => ?_
                refine an_skip hS (i := 14) rfl (by kernel_rfl) (by kernel_rfl) (by kernel_rfl) rfl (by decide) (fun c a a' w hd h => hQp c a a' w hd h) rfl hM.fr fun a hS => ?_
                refine an_skip hS (i := 15) rfl (by kernel_rfl) (by kernel_rfl) (by kernel_rfl) rfl (by decide) (fun c a a' w hd h => hQp c a a' w hd h) rfl hM.fr fun a hS => ?_
                refine an_skip hS (i := 16) rfl (by kernel_rfl) (by kernel_rfl) (by kernel_rfl) rfl (by decide) (fun c a a' w hd h => hQp c a a' w hd h) rfl hM.fr fun a hS => ?_
                refine an_skip hS (i := 17) rfl (by kernel_rfl) (by kernel_rfl) (by kernel_rfl) rfl (by decide) (fun c a a' w hd h => hQp c a a' w hd h) rfl hM.fr fun a hS => ?_
                refine an_skip hS (i := 18) rfl (by kernel_rfl) (by kernel_rfl) (by kernel_rfl) rfl (by decide) (fun c a a' w hd h => hQp c a a' w hd h) rfl hM.fr fun a hS => ?_
                refine an_skip hS (i := 19) rfl (by kernel_rfl) (by kernel_rfl) (by kernel_rfl) rfl (by decide) (fun c a a' w hd h => hQp c a a' w hd h) rfl hM.fr fun a hS => ?_
                refine an_skip hS (i := 20) rfl (by kernel_rfl) (by kernel_rfl) (by kernel_rfl) rfl (by decide) (fun c a a' w hd h => hQp c a a' w hd h) rfl hM.fr fun a hS => ?_
                refine an_skip hS (i := 21) rfl (by kernel_rfl) (by kernel_rfl) (by kernel_rfl) rfl (by decide) (fun c a a' w hd h => hQp c a a' w hd h) rfl hM.fr fun a hS => ?_
                refine an_skip hS (i := 22) rfl (by kernel_rfl) (by kernel_rfl) (by kernel_rfl) rfl (by decide) (fun c a a' w hd h => hQp c a a' w hd h) rfl hM.fr fun a hS => ?_
                refine an_skip hS (i := 23) rfl (by kernel_rfl) (by kernel_rfl) (by kernel_rfl) rfl (by decide) (fun c a a' w hd h => hQp c a a' w hd h) rfl hM.fr fun a hS => ?_
                refine an_skip hS (i := 24) rfl (by kernel_rfl) (by kernel_rfl) (by kernel_rfl) rfl (by decide) (fun c a a' w hd h => hQp c a a' w hd h) rfl hM.fr fun a hS => ?_
                refine an_skip hS (i := 25) rfl (by kernel_rfl) (by kernel_rfl) (by kernel_rfl) rfl (by decide) (fun c a a' w hd h => hQp c a a' w hd h) rfl hM.fr fun a hS => ?_
                refine an_skip hS (i := 26) rfl (by kernel_rfl) (by kernel_rfl) (by kernel_rfl) rfl (by decide) (fun c a a' w hd h => hQp c a a' w hd h) rfl hM.fr fun a hS => ?_
                refine an_skip hS (i := 27) rfl (by kernel_rfl) (by kernel_rfl) (by kernel_rfl) rfl (by decide) (fun c a a' w hd h => hQp c a a' w hd h) rfl hM.fr fun a hS => ?_
                refine an_skip hS (i := 28) rfl (by kernel_rfl) (by kernel_rfl) (by kernel_rfl) rfl (by decide) (fun c a a' w hd h => hQp c a a' w hd h) rfl hM.fr fun a hS => ?_
                refine an_skip hS (i := 29) rfl (by kernel_rfl) (by kernel_rfl) (by kernel_rfl) rfl (by decide) (fun c a a' w hd h => hQp c a a' w hd h) rfl hM.fr fun a hS => ?_
                refine an_skip hS (i := 30) rfl (by kernel_rfl) (by kernel_rfl) (by kernel_rfl) rfl (by decide) (fun c a a' w hd h => hQp c a a' w hd h) rfl hM.fr fun a hS => ?_
                refine an_skip hS (i := 31) rfl (by kernel_rfl) (by kernel_rfl) (by kernel_rfl) rfl (by decide) (fun c a a' w hd h => hQp c a a' w hd h) rfl hM.fr fun a hS => ?_
                refine an_skip hS (i := 32) rfl (by kernel_rfl) (by kernel_rfl) (by kernel_rfl) rfl (by decide) (fun c a a' w hd h => hQp c a a' w hd h) rfl hM.fr fun a hS => ?_
                refine an_skip hS (i := 33) rfl (by kernel_rfl) (by kernel_rfl) (by kernel_rfl) rfl (by decide) (fun c a a' w hd h => hQp c a a' w hd h) rfl hM.fr fun a hS => ?_
                refine an_skip hS (i := 34) rfl (by kernel_rfl) (by kernel_rfl) (by kernel_rfl) rfl (by decide) (fun c a a' w hd h => hQp c a a' w hd h) rfl hM.fr fun a hS => ?_
                refine an_skip hS (i := 35) rfl (by kernel_rfl) (by kernel_rfl) (by kernel_rfl) rfl (by decide) (fun c a a' w hd h => hQp c a a' w hd h) rfl hM.fr fun a hS => ?_
                refine an_skip hS (i := 36) rfl (by kernel_rfl) (by kernel_rfl) (by kernel_rfl) rfl (by decide) (fun c a a' w hd h => hQp c a a' w hd h) rfl hM.fr fun a hS => ?_
                refine an_skip hS (i := 37) rfl (by kernel_rfl) (by kernel_rfl) (by kernel_rfl) rfl (by decide) (fun c a a' w hd h => hQp c a a' w hd h) rfl hM.fr fun a hS => ?_
                refine an_take hS (i := 38) rfl (by kernel_rfl) (by kernel_rfl) (by kernel_rfl) rfl (by decide) (fun c a a' w hd h => hQp c a a' w hd h) rfl (fun w' hC' => (rv_pick_f (hS.ev rfl) (hS.ev rfl))) hM.fr fun a hS => ?_
                refine an_done (by kernel_rfl) ?_
                have hN := hM.pick [] (by decide) rfl
                have hM := Mem.callo (A := []) (B := [(true, bx b3 43 [(Value.int IntKind.i64 p0_g_Size), p0_g_Rowsv]), (false, rd p0_g_Rowsv (List.map (Value.int IntKind.i64) p0_g_Rows))]) hB rfl (hN.memS fun _ h => h.elim) rfl
                exact hJ7 false _ _ (hS.sub (sub_cons rfl (sub_cons rfl (sub_cons rfl (sub_cons rfl sub_nil))))) (hM.pick [0, 1] (by decide) rfl) hF
            · refine cond_f hS rfl hc ?_
              refine wp_exit ?_
              cases hF
              exact hJ4 _ _ (hS.sub (sub_cons rfl (sub_cons rfl sub_nil))) (hM.pick [0, 1] (by decide) rfl) (by have e := hX6 _ rfl; subst e; exact hF6)
        refine an_start Nob ty_mixed fun w hf => ?_
        have hM := hM.fra hf
        have hB := hM
        have hM := hB.reg0
        refine an_take hS (i := 0) rfl (by kernel_rfl) (by kernel_rfl) (by kernel_rfl) rfl (by decide) (fun c a a' w hd h => hQp c a a' w hd h) rfl (fun w' hC' => (rv_fieldAddr ty_fd_43_1 (hS.ev rfl))) hM.fr fun a hS => ?_
        refine an_take hS (i := 1) rfl (by kernel_rfl) (by kernel_rfl) (by kernel_rfl) rfl (by decide) (fun c a a' w hd h => hQp c a a' w hd h) rfl (fun w' hC' => (rv_load_bx (hS.ev rfl) ty_ag_38 ((hB.fra hC').get 0 rfl) rfl)) hM.fr fun a hS => ?_
        refine an_take hS (i := 2) rfl (by kernel_rfl) (by kernel_rfl) (by kernel_rfl) rfl (by decide) (fun c a a' w hd h => hQp c a a' w hd h) rfl (fun w' hC' => (rv_move (hS.ev rfl))) hM.fr fun a hS => ?_
        obtain ⟨x617, hx, hF⟩ := bind_some hF
        obtain ⟨hi0, hi1, hex617⟩ := idxL_some hx
        refine an_take hS (i := 3) rfl (by kernel_rfl) (by kernel_rfl) (by kernel_rfl) rfl (by decide) (fun c a a' w hd h => hQp c a a' w hd h) rfl (fun w' hC' => (rv_indexAddr Tryd.underlying38 ty_el_3 (hS.ev rfl) (hS.ev rfl) (hM.get 1 rfl) hi0 (map_len hi1))) hM.fr fun a hS => ?_
        refine an_take hS (i := 4) rfl (by kernel_rfl) (by kernel_rfl) (by kernel_rfl) rfl (by decide) (fun c a a' w hd h => hQp c a a' w hd h) rfl (fun w' hC' => (rv_load_el (hS.ev rfl) ty_ag_3 ((hB.fra hC').get 1 rfl) (mget hex617))) hM.fr fun a hS => ?_
        refine an_take hS (i := 5) rfl (by kernel_rfl) (by kernel_rfl) (by kernel_rfl) rfl (by decide) (fun c a a' w hd h => hQp c a a' w hd h) rfl (fun w' hC' => (rv_lss (hS.ev rfl) (hS.ev rfl))) hM.fr fun a hS => ?_
        refine an_take hS (i := 6) rfl (by kernel_rfl) (by kernel_rfl) (by kernel_rfl) rfl (by decide) (fun c a a' w hd h => hQp c a a' w hd h) rfl (fun w' hC' => (rv_move (hS.ev rfl))) hM.fr fun a hS => ?_
        rcases ite_some hF with ⟨hc, hF⟩ | ⟨hc, hF⟩
        · have hS := hS.setb (t := 29) rfl hc
          refine an_skip hS (i := 7) rfl (by kernel_rfl) (by kernel_rfl) (by kernel_rfl) rfl (by decide) (fun c a a' w hd h => hQp c a a' w hd h) rfl hM.fr fun a hS => ?_
          refine an_skip hS (i := 8) rfl (by kernel_rfl) (by kernel_rfl) (by kernel_rfl) rfl (by decide) (fun c a a' w hd h => hQp c a a' w hd h) rfl hM.fr fun a hS => ?_
          refine an_skip hS (i := 9) rfl (by kernel_rfl) (by kernel_rfl) (by kernel_rfl) rfl (by decide) (fun c a a' w hd h => hQp c a a' w hd h) rfl hM.fr fun a hS => ?_
          refine an_skip hS (i := 10) rfl (by kernel_rfl) (by kernel_rfl) (by kernel_rfl) rfl (by decide) (fun c a a' w hd h => hQp c a a' w hd h) rfl hM.fr fun a hS => ?_
          refine an_skip hS (i := 11) rfl (by kernel_rfl) (by kernel_rfl) (by kernel_rfl) rfl (by decide) (fun c a a' w hd h => hQp c a a' w hd h) rfl hM.fr fun a hS => ?_
          refine an_skip hS (i := 12) rfl (by kernel_rfl) (by kernel_rfl) (by kernel_rfl) rfl (by decide) (fun c a a' w hd h => hQp c a a' w hd h) rfl hM.fr fun a hS => ?_
          refine an_skip hS (i := 13) rfl (by kernel_rfl) (by kernel_rfl) (by kernel_rfl) rfl (by decide) (fun c a a' w hd h => hQp c a a' w hd h) rfl hM.fr fun a hS => ?_
          refine an_skip hS (i := 14) rfl (by kernel_rfl) (by kernel_rfl) (by kernel_rfl) rfl (by decide) (fun c a a' w hd h => hQp c a a' w hd h) rfl hM.fr fun a hS => ?_
          refine an_skip hS (i := 15) rfl (by kernel_rfl) (by kernel_rfl) (by kernel_rfl) rfl (by decide) (fun c a a' w hd h => hQp c a a' w hd h) rfl hM.fr fun a hS => ?_
          refine an_take hS (i := 16) rfl (by kernel_rfl) (by kernel_rfl) (by kernel_rfl) rfl (by decide) (fun c a a' w hd h => hQp c a a' w hd h) rfl (fun w' hC' => (rv_pick_t (hS.ev rfl) (hS.ev rfl))) hM.fr fun a hS => ?_
          refine an_take hS (i := 17) rfl (by kernel_rfl) (by kernel_rfl) (by kernel_rfl) rfl (by decide) (fun c a a' w hd h => hQp c a a' w hd h) rfl (fun w' hC' => (rv_move (hS.ev rfl))) hM.fr fun a hS => ?_
          refine an_skip hS (i := 18) rfl (by kernel_rfl) (by kernel_rfl) (by kernel_rfl) rfl (by decide) (fun c a a' w hd h => hQp c a a' w hd h) rfl hM.fr fun a hS => ?_
          refine an_skip hS (i := 19) rfl (by kernel_rfl) (by kernel_rfl) (by kernel_rfl) rfl (by decide) (fun c a a' w hd h => hQp c a a' w hd h) rfl hM.fr fun a hS => ?_
          refine an_skip hS (i := 20) rfl (by kernel_rfl) (by kernel_rfl) (by kernel_rfl) rfl (by decide) (fun c a a' w hd h => hQp c a a' w hd h) rfl hM.fr fun a hS => ?_
          refine an_skip hS (i := 21) rfl (by kernel_rfl) (by kernel_rfl) (by kernel_rfl) rfl (by decide) (fun c a a' w hd h => hQp c a a' w hd h) rfl hM.fr fun a hS => ?_
          refine an_skip hS (i := 22) rfl (by kernel_rfl) (by kernel_rfl) (by kernel_rfl) rfl (by decide) (fun c a a' w hd h => hQp c a a' w hd h) rfl hM.fr fun a hS => ?_
          refine an_skip hS (i := 23) rfl (by kernel_rfl) (by kernel_rfl) (by kernel_rfl) rfl (by decide) (fun c a a' w hd h => hQp c a a' w hd h) rfl hM.fr fun a hS => ?_
          refine an_skip hS (i := 24) rfl (by kernel_rfl) (by kernel_rfl) (by kernel_rfl) rfl (by decide) (fun c a a' w hd h => hQp c a a' w hd h) rfl hM.fr fun a hS => ?_
          refine an_skip hS (i := 25) rfl (by kernel_rfl) (by kernel_rfl) (by kernel_rfl) rfl (by decide) (fun c a a' w hd h => hQp c a a' w hd h) rfl hM.fr fun a hS => ?_
          refine an_skip hS (i := 26) rfl (by kernel_rfl) (by kernel_rfl) (by kernel_rfl) rfl (by decide) (fun c a a' w hd h => hQp c a a' w hd h) rfl hM.fr fun a hS => ?_
          refine an_take hS (i := 27) rfl (by kernel_rfl) (by kernel_rfl) (by kernel_rfl) rfl (by decide) (fun c a a' w hd h => hQp c a a' w hd h) rfl (fun w' hC' => (rv_pick_t (hS.ev rfl) (hS.ev rfl))) hM.fr fun a hS => ?_
          refine an_done (by kernel_rfl) ?_
          have hN := hM.pick [] (by decide) rfl
          have hM := Mem.callo (A := []) (B := [(true, bx b3 43 [(Value.int IntKind.i64 p0_g_Size), p0_g_Rowsv]), (false, rd p0_g_Rowsv (List.map (Value.int IntKind.i64) p0_g_Rows))]) hB rfl (hN.memS fun _ h => h.elim) rfl
          exact hJ5 true _ _ (hS.sub (sub_cons rfl (sub_cons rfl (sub_cons rfl sub_nil)))) (hM.pick [0, 1] (by decide) rfl) hF
        · have hS := hS.setb (t := 29) rfl hc
          refine an_take hS (i := 7) rfl (by kernel_rfl) (by kernel_rfl) (by kernel_rfl) rfl (by decide) (fun c a a' w hd h => hQp c a a' w hd h) rfl (fun w' hC' => (rv_fieldAddr ty_fd_43_1 (hS.ev rfl))) hM.fr fun a hS => ?_
          refine an_take hS (i := 8) rfl (by kernel_rfl) (by kernel_rfl) (by kernel_rfl) rfl (by decide) (fun c a a' w hd h => hQp c a a' w hd h) rfl (fun w' hC' => (rv_load_bx (hS.ev rfl) ty_ag_38 ((hB.fra hC').get 0 rfl) rfl)) hM.fr fun a hS => ?_
          refine an_take hS (i := 9) rfl (by kernel_rfl) (by kernel_rfl) (by kernel_rfl) rfl (by decide) (fun c a a' w hd h => hQp c a a' w hd h) rfl (fun w' hC' => (rv_move (hS.ev rfl))) hM.fr fun a hS => ?_
          obtain ⟨x618, hx, hF⟩ := bind_some hF
          obtain ⟨hi0, hi1, hex618⟩ := idxL_some hx
          refine an_take hS (i := 10) rfl (by kernel_rfl) (by kernel_rfl) (by kernel_rfl) rfl (by decide) (fun c a a' w hd h => hQp c a a' w hd h) rfl (fun w' hC' => (rv_indexAddr Tryd.underlying38 ty_el_3 (hS.ev rfl) (hS.ev rfl) (hM.get 1 rfl) hi0 (map_len hi1))) hM.fr fun a hS => ?_
          refine an_take hS (i := 11) rfl (by kernel_rfl) (by kernel_rfl) (by kernel_rfl) rfl (by decide) (fun c a a' w hd h => hQp c a a' w hd h) rfl (fun w' hC' => (rv_load_el (hS.ev rfl) ty_ag_3 ((hB.fra hC').get 1 rfl) (mget hex618))) hM.fr fun a hS => ?_
          refine an_take hS (i := 12) rfl (by kernel_rfl) (by kernel_rfl) (by kernel_rfl) rfl (by decide) (fun c a a' w hd h => hQp c a a' w hd h) rfl (fun w' hC' => (rv_fieldAddr ty_fd_43_0 (hS.ev rfl))) hM.fr fun a hS => ?_
          refine an_take hS (i := 13) rfl (by kernel_rfl) (by kernel_rfl) (by kernel_rfl) rfl (by decide) (fun c a a' w hd h => hQp c a a' w hd h) rfl (fun w' hC' => (rv_load_bx (hS.ev rfl) ty_ag_3 ((hB.fra hC').get 0 rfl) rfl)) hM.fr fun a hS => ?_
          obtain ⟨_, hx, hF⟩ := bind_some hF
          have hi0 := nnO_some hx
          refine an_take hS (i := 14) rfl (by kernel_rfl) (by kernel_rfl) (by kernel_rfl) rfl (by decide) (fun c a a' w hd h => hQp c a a' w hd h) rfl (fun w' hC' => (rv_shl (hS.ev rfl) (hS.ev rfl) hi0)) hM.fr fun a hS => ?_
          refine an_take hS (i := 15) rfl (by kernel_rfl) (by kernel_rfl) (by kernel_rfl) rfl (by decide) (fun c a a' w hd h => hQp c a a' w hd h) rfl (fun w' hC' => (rv_geq (hS.ev rfl) (hS.ev rfl))) hM.fr fun a hS => ?_
          refine an_take hS (i := 16) rfl (by kernel_rfl) (by kernel_rfl) (by kernel_rfl) rfl (by decide) (fun c a a' w hd h => hQp c a a' w hd h) rfl (fun w' hC' => (rv_pick_f (hS.ev rfl) (hS.ev rfl))) hM.fr fun a hS => ?_
          refine an_take hS (i := 17) rfl (by kernel_rfl) (by kernel_rfl) (by kernel_rfl) rfl (by decide) (fun c a a' w hd h => hQp c a a' w hd h) rfl (fun w' hC' => (rv_move (hS.ev rfl))) hM.fr fun a hS => ?_
          rcases ite_some hF with ⟨hc, hF⟩ | ⟨hc, hF⟩
          · have hS := hS.setb (t := 40) rfl hc
            refine an_skip hS (i := 18) rfl (by kernel_rfl) (by kernel_rfl) (by kernel_rfl) rfl (by decide) (fun c a a' w hd h => hQp c a a' w hd h) rfl hM.fr fun a hS => ?_
            refine an_skip hS (i := 19) rfl (by kernel_rfl) (by kernel_rfl) (by kernel_rfl) rfl (by decide) (fun c a a' w hd h => hQp c a a' w hd h) rfl hM.fr fun a hS => ?_
            refine an_skip hS (i := 20) rfl (by kernel_rfl) (by kernel_rfl) (by kernel_rfl) rfl (by decide) (fun c a a' w hd h => hQp c a a' w hd h) rfl hM.fr fun a hS => ?_
            refine an_skip hS (i := 21) rfl (by kernel_rfl) (by kernel_rfl) (by kernel_rfl) rfl (by decide) (fun c a a' w hd h => hQp c a a' w hd h) rfl hM.fr fun a hS => ?_
            refine an_skip hS (i := 22) rfl (by kernel_rfl) (by kernel_rfl) (by kernel_rfl) rfl (by decide) (fun c a a' w hd h => hQp c a a' w hd h) rfl hM.fr fun a hS => ?_
            refine an_skip hS (i := 23) rfl (by kernel_rfl) (by kernel_rfl) (by kernel_rfl) rfl (by decide) (fun c a a' w hd h => hQp c a a' w hd h) rfl hM.fr fun a hS => ?_
            refine an_skip hS (i := 24) rfl (by kernel_rfl) (by kernel_rfl) (by kernel_rfl) rfl (by decide) (fun c a a' w hd h => hQp c a a' w hd h) rfl hM.fr fun a hS => ?_
            refine an_skip hS (i := 25) rfl (by kernel_rfl) (by kernel_rfl) (by kernel_rfl) rfl (by decide) (fun c a a' w hd h => hQp c a a' w hd h) rfl hM.fr fun a hS => ?_
            refine an_skip hS (i := 26) rfl (by kernel_rfl) (by kernel_rfl) (by kernel_rfl) rfl (by decide) (fun c a a' w hd h => hQp c a a' w hd h) rfl hM.fr fun a hS => ?_
            refine an_take hS (i := 27) rfl (by kernel_rfl) (by kernel_rfl) (by kernel_rfl) rfl (by decide) (fun c a a' w hd h => hQp c a a' w hd h) rfl (fun w' hC' => (rv_pick_t (hS.ev rfl) (hS.ev rfl))) hM.fr fun a hS => ?_
            refine an_done (by kernel_rfl) ?_
            have hN := hM.pick [] (by decide) rfl
            have hM := Mem.callo (A := []) (B := [(true, bx b3 43 [(Value.int IntKind.i64 p0_g_Size), p0_g_Rowsv]), (false, rd p0_g_Rowsv (List.map (Value.int IntKind.i64) p0_g_Rows))]) hB rfl (hN.memS fun _ h => h.elim) rfl
            exact hJ5 true _ _ (hS.sub (sub_cons rfl (sub_cons rfl (sub_cons rfl sub_nil)))) (hM.pick [0, 1] (by decide) rfl) hF
          · have hS := hS.setb (t := 40) rfl hc
            refine an_take hS (i := 18) rfl (by kernel_rfl) (by kernel_rfl) (by kernel_rfl) rfl (by decide) (fun c a a' w hd h => hQp c a a' w hd h) rfl (fun w' hC' => (rv_fieldAddr ty_fd_43_1 (hS.ev rfl))) hM.fr fun a hS => ?_
            refine an_take hS (i := 19) rfl (by kernel_rfl) (by kernel_rfl) (by kernel_rfl) rfl (by decide) (fun c a a' w hd h => hQp c a a' w hd h) rfl (fun w' hC' => (rv_load_bx (hS.ev rfl) ty_ag_38 ((hB.fra hC').get 0 rfl) rfl)) hM.fr fun a hS => ?_
            refine an_take hS (i := 20) rfl (by kernel_rfl) (by kernel_rfl) (by kernel_rfl) rfl (by decide) (fun c a a' w hd h => hQp c a a' w hd h) rfl (fun w' hC' => (rv_move (hS.ev rfl))) hM.fr fun a hS => ?_
            obtain ⟨x619, hx, hF⟩ := bind_some hF
            obtain ⟨hi0, hi1, hex619⟩ := idxL_some hx
            refine an_take hS (i := 21) rfl (by kernel_rfl) (by kernel_rfl) (by kernel_rfl) rfl (by decide) (fun c a a' w hd h => hQp c a a' w hd h) rfl (fun w' hC' => (rv_indexAddr Tryd.underlying38 ty_el_3 (hS.ev rfl) (hS.ev rfl) (hM.get 1 rfl) hi0 (map_len hi1))) hM.fr fun a hS => ?_
            refine an_take hS (i := 22) rfl (by kernel_rfl) (by kernel_rfl) (by kernel_rfl) rfl (by decide) (fun c a a' w hd h => hQp c a a' w hd h) rfl (fun w' hC' => (rv_load_el (hS.ev rfl) ty_ag_3 ((hB.fra hC').get 1 rfl) (mget hex619))) hM.fr fun a hS => ?_
            refine an_take hS (i := 23) rfl (by kernel_rfl) (by kernel_rfl) (by kernel_rfl) rfl (by decide) (fun c a a' w hd h => hQp c a a' w hd h) rfl (fun w' hC' => (rv_move (hS.ev rfl))) hM.fr fun a hS => ?_
            obtain ⟨_, hx, hF⟩ := bind_some hF
            have hi0 := nnO_some hx
            refine an_take hS (i := 24) rfl (by kernel_rfl) (by kernel_rfl) (by kernel_rfl) rfl (by decide) (fun c a a' w hd h => hQp c a a' w hd h) rfl (fun w' hC' => (rv_shr (hS.ev rfl) (hS.ev rfl) hi0)) hM.fr fun a hS => ?_
            refine an_take hS (i := 25) rfl (by kernel_rfl) (by kernel_rfl) (by kernel_rfl) rfl (by decide) (fun c a a' w hd h => hQp c a a' w hd h) rfl (fun w' hC' => (rv_and (hS.ev rfl) (hS.ev rfl))) hM.fr fun a hS => ?_
            refine an_take hS (i := 26) rfl (by kernel_rfl) (by kernel_rfl) (by kernel_rfl) rfl (by decide) (fun c a a' w hd h => hQp c a a' w hd h) rfl (fun w' hC' => (rv_eql (hS.ev rfl) (hS.ev rfl))) hM.fr fun a hS => ?_
            refine an_take hS (i := 27) rfl (by kernel_rfl) (by kernel_rfl) (by kernel_rfl) rfl (by decide) (fun c a a' w hd h => hQp c a a' w hd h) rfl (fun w' hC' => (rv_pick_f (hS.ev rfl) (hS.ev rfl))) hM.fr fun a hS => ?_
            refine an_done (by kernel_rfl) ?_
            have hN := hM.pick [] (by decide) rfl
            have hM := Mem.callo (A := []) (B := [(true, bx b3 43 [(Value.int IntKind.i64 p0_g_Size), p0_g_Rowsv]), (false, rd p0_g_Rowsv (List.map (Value.int IntKind.i64) p0_g_Rows))]) hB rfl (hN.memS fun _ h => h.elim) rfl
            exact hJ5 ((bAnd (shR x619 x319) 1) == 1) _ _ (hS.sub (sub_cons rfl (sub_cons rfl (sub_cons rfl sub_nil)))) (hM.pick [0, 1] (by decide) rfl) hF
      · refine cond_f hS rfl hc ?_
        refine wp_exit ?_
        cases hF
        exact hJ2 _ _ (hS.sub sub_nil) (hM.pick [] (by decide) rfl) (by have e := hX3 _ rfl; subst e; exact hF3)
  refine wp_region_lit ?_
  refine st_val hS rfl rfl (by decide) (rv_fieldAddr ty_fd_43_0 (hS.ev rfl)) fun a hS => ?_
  refine st_val hS rfl rfl (by decide) (rv_load_bx (hS.ev rfl) ty_ag_3 (hM.get 0 rfl) rfl) fun a hS => ?_
  obtain ⟨r620, hr, hF⟩ := bind_some hF
  refine st_wp hS rfl (wp_call hS rfl rfl (by decide) fn_ok_40 rfl (c_spec_l1In F p0_g_Size 1 7 hr _) fun v w a hK hS => ?_)
  obtain ⟨rfl, hN⟩ := hK
  have hM := hM.fra hN.fr
  refine st_val hS rfl rfl (by decide) (rv_not (hS.ev rfl)) fun a hS => ?_
  refine st_val hS rfl rfl (by decide) (rv_move (hS.ev rfl)) fun a hS => ?_
  rcases ite_some hF with ⟨hc, hF⟩ | ⟨hc, hF⟩
  · have hS := hS.setb (t := 9) rfl hc
    refine st_skip hS rfl rfl (by decide) fun a hS => ?_
    refine st_skip hS rfl rfl (by decide) fun a hS => ?_
    refine st_skip hS rfl rfl (by decide) fun a hS => ?_
    refine st_skip hS rfl rfl (by decide) fun a hS => ?_
    refine st_skip hS rfl rfl (by decide) fun a hS => ?_
    refine st_skip hS rfl rfl (by decide) fun a hS => ?_
    refine st_val hS rfl rfl (by decide) (rv_pick_t (hS.ev rfl) (hS.ev rfl)) fun a hS => ?_
    refine wpList_nil ?_
    exact hJ1 true _ _ (hS.sub (sub_cons rfl (sub_cons rfl sub_nil))) (hM.pick [0, 1] (by decide) rfl) hF
  · have hS := hS.setb (t := 9) rfl hc
    refine st_val hS rfl rfl (by decide) (rv_fieldAddr ty_fd_43_1 (hS.ev rfl)) fun a hS => ?_
    refine st_val hS rfl rfl (by decide) (rv_load_bx (hS.ev rfl) ty_ag_38 (hM.get 0 rfl) rfl) fun a hS => ?_
    refine st_val hS rfl rfl (by decide) (rv_len_rowM Tryd.underlying38 (hS.ev rfl) (hM.get 1 rfl)) fun a hS => ?_
    refine st_val hS rfl rfl (by decide) (rv_fieldAddr ty_fd_43_0 (hS.ev rfl)) fun a hS => ?_
    refine st_val hS rfl rfl (by decide) (rv_load_bx (hS.ev rfl) ty_ag_3 (hM.get 0 rfl) rfl) fun a hS => ?_
    refine st_val hS rfl rfl (by decide) (rv_neq (hS.ev rfl) (hS.ev rfl)) fun a hS => ?_
    refine st_val hS rfl rfl (by decide) (rv_pick_f (hS.ev rfl) (hS.ev rfl)) fun a hS => ?_
    refine wpList_nil ?_
    exact hJ1 ((p0_g_Rows.length : Int) != p0_g_Size) _ _ (hS.sub (sub_cons rfl (sub_cons rfl sub_nil))) (hM.pick [0, 1] (by decide) rfl) hF


theorem c_spec_l2Edge (F : Nat) (p0_g_Size : Int) (p0_g_Rows : List Int) (p1_v : Int) (p2_w : Int) (p0_g_Rowsv : Value) {r : Bool} (hF : S_spec_l2Edge F p0_g_Size p0_g_Rows p1_v p2_w = some r) (w0 : World) (h0 : RdRow w0 p0_g_Rowsv (List.map (Value.int IntKind.i64) p0_g_Rows)) :
    Calls Tryd.prog 65 [(Value.agg #[(Value.int IntKind.i64 p0_g_Size), p0_g_Rowsv]), (Value.int IntKind.i64 p1_v), (Value.int IntKind.i64 p2_w)].toArray w0 (retPost fun v w' => v = (Value.bool r) ∧ Mem Nob w0 w' []) := by
  have hM : Mem Nob w0 w0 [(false, rd p0_g_Rowsv (List.map (Value.int IntKind.i64) p0_g_Rows))] := (Mem.rcons (Mem.nil w0) h0 (by simp))
  refine enter2 Tryd.func65 rfl rfl rfl fun Q a hQr hQn hQp hS => ?_
  have hS : Sl 16 [(0, (Value.agg #[(Value.int IntKind.i64 p0_g_Size), p0_g_Rowsv])), (1, (Value.int IntKind.i64 p1_v)), (2, (Value.int IntKind.i64 p2_w))] a := hS
  unfold S_spec_l2Edge at hF
  refine wp_seq_k fun K1 hK1 => ?_
  refine wp_region_lit ?_
  obtain ⟨b3, w, hr, hM⟩ := hM.boxE (ρ := a.eval) (dst := some 3) (ty := _) (pos := _) (af := _) (gd := _) (x := .tmp 0) (T := 43) [(Value.int IntKind.i64 p0_g_Size), p0_g_Rowsv] (hS.ev rfl) rfl
  refine st_val hS rfl rfl (by decide) hr fun a hS => ?_
  refine st_val hS rfl rfl (by decide) (rv_assign (hS.ev rfl)) fun a hS => ?_
  refine wpList_nil ?_
  refine hK1 _ _ ?_
  refine wp_seq_k fun K4 hK4 => ?_
  refine wp_region_lit ?_
  refine st_val hS rfl rfl (by decide) (rv_fieldAddr ty_fd_43_1 (hS.ev rfl)) fun a hS => ?_
  refine st_val hS rfl rfl (by decide) (rv_load_bx (hS.ev rfl) ty_ag_38 (hM.get 0 rfl) rfl) fun a hS => ?_
  refine st_val hS rfl rfl (by decide) (rv_move (hS.ev rfl)) fun a hS => ?_
  obtain ⟨x6, hx, hF⟩ := bind_some hF
  obtain ⟨hi0, hi1, hex6⟩ := idxL_some hx
  refine st_val hS rfl rfl (by decide) (rv_indexAddr Tryd.underlying38 ty_el_3 (hS.ev rfl) (hS.ev rfl) (hM.get 1 rfl) hi0 (map_len hi1)) fun a hS => ?_
  refine st_val hS rfl rfl (by decide) (rv_load_el (hS.ev rfl) ty_ag_3 (hM.get 1 rfl) (mget hex6)) fun a hS => ?_
  refine st_val hS rfl rfl (by decide) (rv_move (hS.ev rfl)) fun a hS => ?_
  obtain ⟨_, hx, hF⟩ := bind_some hF
  have hi0 := nnO_some hx
  refine st_val hS rfl rfl (by decide) (rv_shr (hS.ev rfl) (hS.ev rfl) hi0) fun a hS => ?_
  refine st_val hS rfl rfl (by decide) (rv_and (hS.ev rfl) (hS.ev rfl)) fun a hS => ?_
  refine st_val hS rfl rfl (by decide) (rv_eql (hS.ev rfl) (hS.ev rfl)) fun a hS => ?_
  refine st_val hS rfl rfl (by decide) (rv_assign (hS.ev rfl)) fun a hS => ?_
  refine wpList_nil ?_
  refine hK4 _ _ ?_
  refine wp_ret ?_
  cases hF
  exact hQr _ _ (r_1 hS rfl rfl ⟨rfl, hM.pick [] (by decide) rfl⟩)


theorem c_spec_EdgesOf (F : Nat) (p0_g_Size : Int) (p0_g_Rows : List Int) (p0_g_Rowsv : Value) {r : (List (List Int))} (hF : S_spec_EdgesOf F p0_g_Size p0_g_Rows = some r) (w0 : World) (h0 : RdRow w0 p0_g_Rowsv (List.map (Value.int IntKind.i64) p0_g_Rows)) :
    Calls Tryd.prog 50 [(Value.agg #[(Value.int IntKind.i64 p0_g_Size), p0_g_Rowsv])].toArray w0 (retPost fun v w' => ∃ v418 hs419, v = v418 ∧ Mem Nob w0 w' [(true, mx 38 3 v418 hs419 (List.map (List.map (Value.int IntKind.i64)) r))]) := by
  have hM : Mem Nob w0 w0 [(false, rd p0_g_Rowsv (List.map (Value.int IntKind.i64) p0_g_Rows))] := (Mem.rcons (Mem.nil w0) h0 (by simp))
  refine enter2 Tryd.func50 rfl rfl rfl fun Q a hQr hQn hQp hS => ?_
  have hS : Sl 36 [(0, (Value.agg #[(Value.int IntKind.i64 p0_g_Size), p0_g_Rowsv]))] a := hS
  unfold S_spec_EdgesOf at hF
  refine wp_seq_k fun K1 hK1 => ?_
  refine wp_region_lit ?_
  obtain ⟨b3, w, hr, hM⟩ := hM.boxE (ρ := a.eval) (dst := some 1) (ty := _) (pos := _) (af := _) (gd := _) (x := .tmp 0) (T := 43) [(Value.int IntKind.i64 p0_g_Size), p0_g_Rowsv] (hS.ev rfl) rfl
  refine st_val hS rfl rfl (by decide) hr fun a hS => ?_
  refine st_val hS rfl rfl (by decide) (rv_assign (hS.ev rfl)) fun a hS => ?_
  refine wpList_nil ?_
  refine hK1 _ _ ?_
  refine wp_seq_k fun K4 hK4 => ?_
  refine wp_region_lit ?_
  obtain ⟨v6, w, hr, hM⟩ := Mem.mxLit0 (e2 := 3) (dst := some 6) (ty := _) (pos := _) (af := _) (gd := _) hM hS Tryd.underlying67 ty_el_38 rfl
  refine st_val hS rfl rfl (by decide) hr fun a hS => ?_
  refine st_val hS rfl rfl (by decide) (rv_assign (hS.ev rfl)) fun a hS => ?_
  refine wpList_nil ?_
  refine hK4 _ _ ?_
  refine wp_seq_k fun K7 hK7 => ?_
  have hJ1 : ∀ (l213 : List (List Int)) (v211 : Value) (hs212 : List Value) (a : Act) (w : World), Sl 36 [(3, v211)] a → Mem Nob w0 w [(true, mx 38 3 v211 hs212 (List.map (List.map (Value.int IntKind.i64)) l213))] → S_spec_EdgesOf_j1 F l213 = some r → K7 a w := by
    intro l213 v211 hs212 a w hS hM hF
    unfold S_spec_EdgesOf_j1 at hF
    refine hK7 _ _ ?_
    refine wp_seq_k fun K214 hK214 => ?_
    refine wp_region_lit ?_
    refine st_val hS rfl rfl (by decide) (rv_move (hS.ev rfl)) fun a hS => ?_
    refine st_val hS rfl rfl (by decide) (rv_assign (hS.ev rfl)) fun a hS => ?_
    refine wpList_nil ?_
    refine hK214 _ _ ?_
    refine wp_ret ?_
    cases hF
    exact hQr _ _ (r_1 hS rfl rfl ⟨v211, hs212, rfl, hM.pick [0] (by decide) rfl⟩)
  refine wp_seq_k fun K215 hK215 => ?_
  refine wp_region_lit ?_
  refine st_val hS rfl rfl (by decide) (rv_assign (hS.ev rfl)) fun a hS => ?_
  refine wpList_nil ?_
  refine hK215 _ _ ?_
  refine wp_block ?_
  obtain ⟨lb2, hl2, hF2⟩ := bind_some hF
  refine wp_loop_sh (fun s => S_spec_EdgesOf_l2 F p0_g_Size p0_g_Rows s.1 s.2) (fun s a w => ∃ (v216 : Value) (hs217 : List Value), Sl 36 [(1, (fdp b3 0)), (3, v216), (4, (Value.int IntKind.i64 s.2))] a ∧ Mem Nob w0 w [(true, bx b3 43 [(Value.int IntKind.i64 p0_g_Size), p0_g_Rowsv]), (false, rd p0_g_Rowsv (List.map (Value.int IntKind.i64) p0_g_Rows)), (true, mx 38 3 v216 hs217 (List.map (List.map (Value.int IntKind.i64)) s.1))]) hl2 ⟨v6, [], (hS.sub (sub_cons rfl (sub_cons rfl (sub_cons rfl sub_nil)))), (hM.pick [1, 2, 0] (by decide) rfl)⟩ ?_
  rintro K2 ⟨l218, x219⟩ a w res2 ⟨v216, hs217, hS, hM⟩ hF hN2 hX2
  have hF : S_spec_EdgesOf_l2 F p0_g_Size p0_g_Rows l218 x219 = some res2 := hF
  have hS : Sl 36 [(1, (fdp b3 0)), (3, v216), (4, (Value.int IntKind.i64 x219))] a := hS
  have hM : Mem Nob w0 w [(true, bx b3 43 [(Value.int IntKind.i64 p0_g_Size), p0_g_Rowsv]), (false, rd p0_g_Rowsv (List.map (Value.int IntKind.i64) p0_g_Rows)), (true, mx 38 3 v216 hs217 (List.map (List.map (Value.int IntKind.i64)) l218))] := hM
  unfold S_spec_EdgesOf_l2 at hF
  refine wp_seq_k fun K319 hK319 => ?_
  refine wp_seq_k fun K324 hK324 => ?_
  have hJ3 : ∀ (p326 : Bool) (a : Act) (w : World), Sl 36 [(1, (fdp b3 0)), (3, v216), (4, (Value.int IntKind.i64 x219)), (14, (Value.bool p326))] a → Mem Nob w0 w [(true, bx b3 43 [(Value.int IntKind.i64 p0_g_Size), p0_g_Rowsv]), (false, rd p0_g_Rowsv (List.map (Value.int IntKind.i64) p0_g_Rows)), (true, mx 38 3 v216 hs217 (List.map (List.map (Value.int IntKind.i64)) l218))] → S_spec_EdgesOf_j3 F p0_g_Size p0_g_Rows l218 x219 p326 = some res2 → K324 a w := by
    intro p326 a w hS hM hF
    unfold S_spec_EdgesOf_j3 at hF
    refine hK324 _ _ ?_
    rcases ite_some hF with ⟨hc, hF⟩ | ⟨hc, hF⟩
    · refine cond_t hS rfl hc ?_
      refine wp_skip ?_
      refine hK319 _ _ ?_
      refine wp_seq_k fun K327 hK327 => ?_
      have hJ4 : ∀ (l373 : List (List Int)) (v371 : Value) (hs372 : List Value) (a : Act) (w : World), Sl 36 [(1, (fdp b3 0)), (3, v371), (4, (Value.int IntKind.i64 x219))] a → Mem Nob w0 w [(true, bx b3 43 [(Value.int IntKind.i64 p0_g_Size), p0_g_Rowsv]), (false, rd p0_g_Rowsv (List.map (Value.int IntKind.i64) p0_g_Rows)), (true, mx 38 3 v371 hs372 (List.map (List.map (Value.int IntKind.i64)) l373))] → S_spec_EdgesOf_j4 F x219 l373 = some res2 → K327 a w := by
        intro l373 v371 hs372 a w hS hM hF
        unfold S_spec_EdgesOf_j4 at hF
        refine hK327 _ _ ?_
        refine wp_region_lit ?_
        refine st_val hS rfl rfl (by decide) (rv_move (hS.ev rfl)) fun a hS => ?_
        refine st_val hS rfl rfl (by decide) (rv_add (hS.ev rfl) (hS.ev rfl)) fun a hS => ?_
        refine st_val hS rfl rfl (by decide) (rv_assign (hS.ev rfl)) fun a hS => ?_
        refine wpList_nil ?_
        cases hF
        exact hN2 _ _ _ rfl ⟨v371, hs372, (hS.sub (sub_cons rfl (sub_cons rfl (sub_cons rfl sub_nil)))), (hM.pick [0, 1, 2] (by decide) rfl)⟩
      refine wp_block ?_
      refine wp_seq_k fun K374 hK374 => ?_
      refine wp_region_lit ?_
      refine st_val hS rfl rfl (by decide) (rv_move (hS.ev rfl)) fun a hS => ?_
      refine st_val hS rfl rfl (by decide) (rv_add (hS.ev rfl) (hS.ev rfl)) fun a hS => ?_
      refine st_val hS rfl rfl (by decide) (rv_assign (hS.ev rfl)) fun a hS => ?_
      refine wpList_nil ?_
      refine hK374 _ _ ?_
      refine wp_block ?_
      obtain ⟨lb5, hl5, hF5⟩ := bind_some hF
      refine wp_loop_sh (fun s => S_spec_EdgesOf_l5 F p0_g_Size p0_g_Rows x219 s.1 s.2) (fun s a w => ∃ (v375 : Value) (hs376 : List Value), Sl 36 [(1, (fdp b3 0)), (3, v375), (4, (Value.int IntKind.i64 x219)), (5, (Value.int IntKind.i64 s.2))] a ∧ Mem Nob w0 w [(true, bx b3 43 [(Value.int IntKind.i64 p0_g_Size), p0_g_Rowsv]), (false, rd p0_g_Rowsv (List.map (Value.int IntKind.i64) p0_g_Rows)), (true, mx 38 3 v375 hs376 (List.map (List.map (Value.int IntKind.i64)) s.1))]) hl5 ⟨v216, hs217, (hS.sub (sub_cons rfl (sub_cons rfl (sub_cons rfl (sub_cons rfl sub_nil))))), (hM.pick [0, 1, 2] (by decide) rfl)⟩ ?_
      rintro K5 ⟨l377, x378⟩ a w res5 ⟨v375, hs376, hS, hM⟩ hF hN5 hX5
      have hF : S_spec_EdgesOf_l5 F p0_g_Size p0_g_Rows x219 l377 x378 = some res5 := hF
      have hS : Sl 36 [(1, (fdp b3 0)), (3, v375), (4, (Value.int IntKind.i64 x219)), (5, (Value.int IntKind.i64 x378))] a := hS
      have hM : Mem Nob w0 w [(true, bx b3 43 [(Value.int IntKind.i64 p0_g_Size), p0_g_Rowsv]), (false, rd p0_g_Rowsv (List.map (Value.int IntKind.i64) p0_g_Rows)), (true, mx 38 3 v375 hs376 (List.map (List.map (Value.int IntKind.i64)) l377))] := hM
      unfold S_spec_EdgesOf_l5 at hF
      refine wp_seq_k fun K398 hK398 => ?_
      refine wp_seq_k fun K400 hK400 => ?_
      refine wp_region_lit ?_
      refine st_val hS rfl rfl (by decide) (rv_move (hS.ev rfl)) fun a hS => ?_
      refine st_val hS rfl rfl (by decide) (rv_fieldAddr ty_fd_43_0 (hS.ev rfl)) fun a hS => ?_
      refine st_val hS rfl rfl (by decide) (rv_load_bx (hS.ev rfl) ty_ag_3 (hM.get 0 rfl) rfl) fun a hS => ?_
      refine st_val hS rfl rfl (by decide) (rv_lss (hS.ev rfl) (hS.ev rfl)) fun a hS => ?_
      refine wpList_nil ?_
      refine hK400 _ _ ?_
      rcases ite_some hF with ⟨hc, hF⟩ | ⟨hc, hF⟩
      · refine cond_t hS rfl hc ?_
        refine wp_skip ?_
        refine hK398 _ _ ?_
        refine wp_seq_k fun K401 hK401 => ?_
        have hJ6 : ∀ (l410 : List (List Int)) (v408 : Value) (hs409 : List Value) (a : Act) (w : World), Sl 36 [(1, (fdp b3 0)), (3, v408), (4, (Value.int IntKind.i64 x219)), (5, (Value.int IntKind.i64 x378))] a → Mem Nob w0 w [(true, bx b3 43 [(Value.int IntKind.i64 p0_g_Size), p0_g_Rowsv]), (false, rd p0_g_Rowsv (List.map (Value.int IntKind.i64) p0_g_Rows)), (true, mx 38 3 v408 hs409 (List.map (List.map (Value.int IntKind.i64)) l410))] → S_spec_EdgesOf_j6 F x378 l410 = some res5 → K401 a w := by
          intro l410 v408 hs409 a w hS hM hF
          unfold S_spec_EdgesOf_j6 at hF
          refine hK401 _ _ ?_
          refine wp_region_lit ?_
          refine st_val hS rfl rfl (by decide) (rv_move (hS.ev rfl)) fun a hS => ?_
          refine st_val hS rfl rfl (by decide) (rv_add (hS.ev rfl) (hS.ev rfl)) fun a hS => ?_
          refine st_val hS rfl rfl (by decide) (rv_assign (hS.ev rfl)) fun a hS => ?_
          refine wpList_nil ?_
          cases hF
          exact hN5 _ _ _ rfl ⟨v408, hs409, (hS.sub (sub_cons rfl (sub_cons rfl (sub_cons rfl (sub_cons rfl sub_nil))))), (hM.pick [0, 1, 2] (by decide) rfl)⟩
        refine wp_block ?_
        refine wp_seq_k fun K411 hK411 => ?_
        refine wp_region_lit ?_
        refine st_val hS rfl rfl (by decide) (rv_load_agg (hS.ev rfl) ty_ag_43 (hM.get 0 rfl) ty_sz_43) fun a hS => ?_
        refine st_val hS rfl rfl (by decide) (rv_move (hS.ev rfl)) fun a hS => ?_
        refine st_val hS rfl rfl (by decide) (rv_move (hS.ev rfl)) fun a hS => ?_
        obtain ⟨r413, hr, hF⟩ := bind_some hF
        refine st_wp hS rfl (wp_call hS rfl rfl (by decide) fn_ok_65 rfl (c_spec_l2Edge F p0_g_Size p0_g_Rows x219 x378 p0_g_Rowsv hr _ (hM.get 1 rfl)) fun v w a hK hS => ?_)
        obtain ⟨rfl, hN⟩ := hK
        have hM := hM.fra hN.fr
        refine wpList_nil ?_
        refine hK411 _ _ ?_
        rcases ite_some hF with ⟨hc, hF⟩ | ⟨hc, hF⟩
        · refine cond_t hS rfl hc ?_
          refine wp_region_lit ?_
          refine st_val hS rfl rfl (by decide) (rv_move (hS.ev rfl)) fun a hS => ?_
          refine st_val hS rfl rfl (by decide) (rv_move (hS.ev rfl)) fun a hS => ?_
          refine st_val hS rfl rfl (by decide) (rv_move (hS.ev rfl)) fun a hS => ?_
          obtain ⟨v414, w, hr, hM⟩ := Mem.litE (f := (Value.int IntKind.i64)) (dst := some 32) (ty := _) (pos := _) (af := _) (gd := _) (ps := [(0, .tmp 30), (1, .tmp 31)]) ([x219, x378] : List (Int)) i64_one hM hS Tryd.underlying38 ty_el_3 rfl rfl rfl rfl
          refine st_val hS rfl rfl (by decide) hr fun a hS => ?_
          obtain ⟨v415, w, hr, hM⟩ := Mem.mxLit1 (dst := some 33) (ty := _) (pos := _) (af := _) (gd := _) (x := .tmp 32) hM hS Tryd.underlying67 ty_el_38 rfl rfl
          refine st_val hS rfl rfl (by decide) hr fun a hS => ?_
          obtain ⟨_, hx, hF⟩ := bind_some hF
          have hM := hM.pick [3, 0, 1, 2] (by decide) rfl
          obtain ⟨v416, w, hr, hM⟩ := Mem.mxApp (ρ := a.eval) (dst := some 34) (ty := _) (pos := _) (af := _) (gd := _) (x := .tmp 29) (y := .tmp 33) hM Tryd.underlying67 ty_el_38 rfl (by decide) (hS.ev rfl) (hS.ev rfl) (by simpa using catO_some hx)
          have hM : Mem Nob w0 w [(true, mx 38 3 v416 (hs376 ++ [v414]) (List.map (List.map (Value.int IntKind.i64)) (l377 ++ ([([x219, x378] : List (Int))] : List (List Int))))), (true, bx b3 43 [(Value.int IntKind.i64 p0_g_Size), p0_g_Rowsv]), (false, rd p0_g_Rowsv (List.map (Value.int IntKind.i64) p0_g_Rows))] := by rw [List.map_append]; exact hM
          refine st_val hS rfl rfl (by decide) hr fun a hS => ?_
          refine st_val hS rfl rfl (by decide) (rv_assign (hS.ev rfl)) fun a hS => ?_
          refine wpList_nil ?_
          exact hJ6 (l377 ++ ([([x219, x378] : List (Int))] : List (List Int))) v416 (hs376 ++ [v414]) _ _ (hS.sub (sub_cons rfl (sub_cons rfl (sub_cons rfl (sub_cons rfl sub_nil))))) (hM.pick [1, 2, 0] (by decide) rfl) hF
        · refine cond_f hS rfl hc ?_
          refine wp_skip ?_
          exact hJ6 l377 v375 hs376 _ _ (hS.sub (sub_cons rfl (sub_cons rfl (sub_cons rfl (sub_cons rfl sub_nil))))) (hM.pick [0, 1, 2] (by decide) rfl) hF
      · refine cond_f hS rfl hc ?_
        refine wp_exit ?_
        cases hF
        exact hJ4 l377 v375 hs376 _ _ (hS.sub (sub_cons rfl (sub_cons rfl (sub_cons rfl sub_nil)))) (hM.pick [0, 1, 2] (by decide) rfl) (by have e := hX5 _ rfl; subst e; exact hF5)
    · refine cond_f hS rfl hc ?_
      refine wp_exit ?_
      cases hF
      exact hJ1 l218 v216 hs217 _ _ (hS.sub (sub_cons rfl sub_nil)) (hM.pick [2] (by decide) rfl) (by have e := hX2 _ rfl; subst e; exact hF2)
  refine wp_region_lit ?_
  refine st_val hS rfl rfl (by decide) (rv_move (hS.ev rfl)) fun a hS => ?_
  refine st_val hS rfl rfl (by decide) (rv_fieldAddr ty_fd_43_0 (hS.ev rfl)) fun a hS => ?_
  refine st_val hS rfl rfl (by decide) (rv_load_bx (hS.ev rfl) ty_ag_3 (hM.get 0 rfl) rfl) fun a hS => ?_
  refine st_val hS rfl rfl (by decide) (rv_lss (hS.ev rfl) (hS.ev rfl)) fun a hS => ?_
  refine st_val hS rfl rfl (by decide) (rv_move (hS.ev rfl)) fun a hS => ?_
  rcases ite_some hF with ⟨hc, hF⟩ | ⟨hc, hF⟩
  · have hS := hS.setb (t := 11) rfl hc
    refine st_val hS rfl rfl (by decide) (rv_load_agg (hS.ev rfl) ty_ag_43 (hM.get 0 rfl) ty_sz_43) fun a hS => ?_
    obtain ⟨r417, hr, hF⟩ := bind_some hF
    refine st_wp hS rfl (wp_call hS rfl rfl (by decide) fn_ok_49 rfl (c_spec_IsGraph F p0_g_Size p0_g_Rows p0_g_Rowsv hr _ (hM.get 1 rfl)) fun v w a hK hS => ?_)
    obtain ⟨rfl, hN⟩ := hK
    have hM := hM.fra hN.fr
    refine st_val hS rfl rfl (by decide) (rv_pick_t (hS.ev rfl) (hS.ev rfl)) fun a hS => ?_
    refine wpList_nil ?_
    exact hJ3 r417 _ _ (hS.sub (sub_cons rfl (sub_cons rfl (sub_cons rfl (sub_cons rfl sub_nil))))) (hM.pick [0, 1, 2] (by decide) rfl) hF
  · have hS := hS.setb (t := 11) rfl hc
    refine st_skip hS rfl rfl (by decide) fun a hS => ?_
    refine st_skip hS rfl rfl (by decide) fun a hS => ?_
    refine st_val hS rfl rfl (by decide) (rv_pick_f (hS.ev rfl) (hS.ev rfl)) fun a hS => ?_
    refine wpList_nil ?_
    exact hJ3 false _ _ (hS.sub (sub_cons rfl (sub_cons rfl (sub_cons rfl (sub_cons rfl sub_nil))))) (hM.pick [0, 1, 2] (by decide) rfl) hF


theorem c_spec_FormatGraph (F : Nat) (p0_g_Size : Int) (p0_g_Rows : List Int) (p0_g_Rowsv : Value) {r : (List UInt8)} (hF : S_spec_FormatGraph F p0_g_Size p0_g_Rows = some r) (w0 : World) (h0 : RdRow w0 p0_g_Rowsv (List.map (Value.int IntKind.i64) p0_g_Rows)) :
    Calls Tryd.prog 26 [(Value.agg #[(Value.int IntKind.i64 p0_g_Size), p0_g_Rowsv])].toArray w0 (retPost fun v w' => v = (Value.string (bs r)) ∧ Mem Nob w0 w' []) := by
  have hM : Mem Nob w0 w0 [(false, rd p0_g_Rowsv (List.map (Value.int IntKind.i64) p0_g_Rows))] := (Mem.rcons (Mem.nil w0) h0 (by simp))
  refine enter2 Tryd.func26 rfl rfl rfl fun Q a hQr hQn hQp hS => ?_
  have hS : Sl 40 [(0, (Value.agg #[(Value.int IntKind.i64 p0_g_Size), p0_g_Rowsv]))] a := hS
  unfold S_spec_FormatGraph at hF
  refine wp_seq_k fun K1 hK1 => ?_
  refine wp_region_lit ?_
  obtain ⟨b3, w, hr, hM⟩ := hM.boxE (ρ := a.eval) (dst := some 1) (ty := _) (pos := _) (af := _) (gd := _) (x := .tmp 0) (T := 43) [(Value.int IntKind.i64 p0_g_Size), p0_g_Rowsv] (hS.ev rfl) rfl
  refine st_val hS rfl rfl (by decide) hr fun a hS => ?_
  refine st_val hS rfl rfl (by decide) (rv_assign (hS.ev rfl)) fun a hS => ?_
  refine wpList_nil ?_
  refine hK1 _ _ ?_
  refine wp_seq_k fun K4 hK4 => ?_
  refine wp_seq_k fun K9 hK9 => ?_
  refine wp_region_lit ?_
  refine st_val hS rfl rfl (by decide) (rv_load_agg (hS.ev rfl) ty_ag_43 (hM.get 0 rfl) ty_sz_43) fun a hS => ?_
  obtain ⟨r11, hr, hF⟩ := bind_some hF
  refine st_wp hS rfl (wp_call hS rfl rfl (by decide) fn_ok_49 rfl (c_spec_IsGraph F p0_g_Size p0_g_Rows p0_g_Rowsv hr _ (hM.get 1 rfl)) fun v w a hK hS => ?_)
  obtain ⟨rfl, hN⟩ := hK
  have hM := hM.fra hN.fr
  refine st_val hS rfl rfl (by decide) (rv_not (hS.ev rfl)) fun a hS => ?_
  refine wpList_nil ?_
  refine hK9 _ _ ?_
  rcases ite_some hF with ⟨hc, hF⟩ | ⟨hc, hF⟩
  · refine cond_t hS rfl hc ?_
    refine wp_seq_k fun K12 hK12 => ?_
    refine wp_region_lit ?_
    refine st_val hS rfl rfl (by decide) (rv_assign (hS.ev rfl)) fun a hS => ?_
    refine wpList_nil ?_
    refine hK12 _ _ ?_
    refine wp_ret ?_
    cases hF
    exact hQr _ _ (r_1 hS rfl rfl ⟨rfl, hM.pick [] (by decide) rfl⟩)
  · refine cond_f hS rfl hc ?_
    refine wp_skip ?_
    refine hK4 _ _ ?_
    refine wp_seq_k fun K13 hK13 => ?_
    refine wp_region_lit ?_
    refine st_val hS rfl rfl (by decide) (rv_fieldAddr ty_fd_43_0 (hS.ev rfl)) fun a hS => ?_
    refine st_val hS rfl rfl (by decide) (rv_load_bx (hS.ev rfl) ty_ag_3 (hM.get 0 rfl) rfl) fun a hS => ?_
    obtain ⟨r15, hr, hF⟩ := bind_some hF
    refine st_wp hS rfl (wp_call hS rfl rfl (by decide) fn_ok_22 rfl (c_spec_FormatInt F p0_g_Size hr _) fun v w a hK hS => ?_)
    obtain ⟨rfl, hN⟩ := hK
    have hM := hM.fra hN.fr
    obtain ⟨_, hx, hF⟩ := bind_some hF
    have hi0 := catO_some hx
    refine st_val hS rfl rfl (by decide) (rv_str_add (hS.ev rfl) (hS.ev rfl) hi0) fun a hS => ?_
    refine st_val hS rfl rfl (by decide) (rv_assign (hS.ev rfl)) fun a hS => ?_
    refine wpList_nil ?_
    refine hK13 _ _ ?_
    refine wp_seq_k fun K16 hK16 => ?_
    refine wp_region_lit ?_
    refine st_val hS rfl rfl (by decide) (rv_load_agg (hS.ev rfl) ty_ag_43 (hM.get 0 rfl) ty_sz_43) fun a hS => ?_
    obtain ⟨r20, hr, hF⟩ := bind_some hF
    refine st_wp hS rfl (wp_call hS rfl rfl (by decide) fn_ok_50 rfl (c_spec_EdgesOf F p0_g_Size p0_g_Rows p0_g_Rowsv hr _ (hM.get 1 rfl)) fun v w a hK hS => ?_)
    obtain ⟨v21, hs22, hv0, hN⟩ := hK
    subst v
    have hM := hM.add hN rfl
    refine st_val hS rfl rfl (by decide) (rv_assign (hS.ev rfl)) fun a hS => ?_
    refine wpList_nil ?_
    refine hK16 _ _ ?_
    refine wp_seq_k fun K23 hK23 => ?_
    have hJ1 : ∀ (s67 : List UInt8) (a : Act) (w : World), Sl 40 [(3, (Value.string (bs s67)))] a → Mem Nob w0 w [] → S_spec_FormatGraph_j1 F s67 = some r → K23 a w := by
      intro s67 a w hS hM hF
      unfold S_spec_FormatGraph_j1 at hF
      refine hK23 _ _ ?_
      refine wp_seq_k fun K68 hK68 => ?_
      refine wp_region_lit ?_
      refine st_val hS rfl rfl (by decide) (rv_move (hS.ev rfl)) fun a hS => ?_
      refine st_val hS rfl rfl (by decide) (rv_assign (hS.ev rfl)) fun a hS => ?_
      refine wpList_nil ?_
      refine hK68 _ _ ?_
      refine wp_ret ?_
      cases hF
      exact hQr _ _ (r_1 hS rfl rfl ⟨rfl, hM.pick [] (by decide) rfl⟩)
    refine wp_seq_k fun K69 hK69 => ?_
    refine wp_region_lit ?_
    refine st_val hS rfl rfl (by decide) (rv_assign (hS.ev rfl)) fun a hS => ?_
    refine wpList_nil ?_
    refine hK69 _ _ ?_
    refine wp_block ?_
    obtain ⟨lb2, hl2, hF2⟩ := bind_some hF
    refine wp_loop_sh (fun s => S_spec_FormatGraph_l2 F r20 s.1 s.2) (fun s a w => Sl 40 [(3, (Value.string (bs s.1))), (4, v21), (5, (Value.int IntKind.i64 s.2))] a ∧ Mem Nob w0 w [(true, mx 38 3 v21 hs22 (List.map (List.map (Value.int IntKind.i64)) r20))]) hl2 ⟨(hS.sub (sub_cons rfl (sub_cons rfl (sub_cons rfl sub_nil)))), (hM.pick [0] (by decide) rfl)⟩ ?_
    rintro K2 ⟨s70, x71⟩ a w res2 ⟨hS, hM⟩ hF hN2 hX2
    have hF : S_spec_FormatGraph_l2 F r20 s70 x71 = some res2 := hF
    have hS : Sl 40 [(3, (Value.string (bs s70))), (4, v21), (5, (Value.int IntKind.i64 x71))] a := hS
    have hM : Mem Nob w0 w [(true, mx 38 3 v21 hs22 (List.map (List.map (Value.int IntKind.i64)) r20))] := hM
    unfold S_spec_FormatGraph_l2 at hF
    refine wp_seq_k fun K92 hK92 => ?_
    refine wp_seq_k fun K94 hK94 => ?_
    refine wp_region_lit ?_
    refine st_val hS rfl rfl (by decide) (rv_move (hS.ev rfl)) fun a hS => ?_
    refine st_val hS rfl rfl (by decide) (rv_move (hS.ev rfl)) fun a hS => ?_
    refine st_val hS rfl rfl (by decide) (rv_len_mxM Tryd.underlying67 (hS.ev rfl) (hM.get 0 rfl)) fun a hS => ?_
    refine st_val hS rfl rfl (by decide) (rv_lss (hS.ev rfl) (hS.ev rfl)) fun a hS => ?_
    refine wpList_nil ?_
    refine hK94 _ _ ?_
    rcases ite_some hF with ⟨hc, hF⟩ | ⟨hc, hF⟩
    · refine cond_t hS rfl hc ?_
      refine wp_skip ?_
      refine hK92 _ _ ?_
      refine wp_seq_k fun K95 hK95 => ?_
      refine wp_block ?_
      refine an_start Nob ty_mixed fun w hf => ?_
      have hM := hM.fra hf
      have hB := hM
      have hM := hB.reg0
      refine an_take hS (i := 0) rfl (by kernel_rfl) (by kernel_rfl) (by kernel_rfl) rfl (by decide) (fun c a a' w hd h => hQp c a a' w hd h) rfl (fun w' hC' => (rv_move (hS.ev rfl))) hM.fr fun a hS => ?_
      obtain ⟨_, hx, hF⟩ := bind_some hF
      have hi0 := catO_some hx
      refine an_take hS (i := 1) rfl (by kernel_rfl) (by kernel_rfl) (by kernel_rfl) rfl (by decide) (fun c a a' w hd h => hQp c a a' w hd h) rfl (fun w' hC' => (rv_str_add (hS.ev rfl) (hS.ev rfl) hi0)) hM.fr fun a hS => ?_
      refine an_take hS (i := 2) rfl (by kernel_rfl) (by kernel_rfl) (by kernel_rfl) rfl (by decide) (fun c a a' w hd h => hQp c a a' w hd h) rfl (fun w' hC' => (rv_move (hS.ev rfl))) hM.fr fun a hS => ?_
      refine an_take hS (i := 3) rfl (by kernel_rfl) (by kernel_rfl) (by kernel_rfl) rfl (by decide) (fun c a a' w hd h => hQp c a a' w hd h) rfl (fun w' hC' => (rv_move (hS.ev rfl))) hM.fr fun a hS => ?_
      obtain ⟨x104, hx, hF⟩ := bind_some hF
      obtain ⟨hi0, hi1, hex104⟩ := idxL_some hx
      refine an_take hS (i := 4) rfl (by kernel_rfl) (by kernel_rfl) (by kernel_rfl) rfl (by decide) (fun c a a' w hd h => hQp c a a' w hd h) rfl (fun w' hC' => (rv_indexAddr Tryd.underlying67 ty_el_38 (hS.ev rfl) (hS.ev rfl) (mx_rd (hM.get 0 rfl)) hi0 (mx_lt (hM.get 0 rfl) hi1))) hM.fr fun a hS => ?_
      obtain ⟨v105, hgx104⟩ := mx_get (hM.get 0 rfl) (mget hex104)
      refine an_take hS (i := 5) rfl (by kernel_rfl) (by kernel_rfl) (by kernel_rfl) rfl (by decide) (fun c a a' w hd h => hQp c a a' w hd h) rfl (fun w' hC' => (rv_load_el (hS.ev rfl) ty_ag_38 (mx_rd ((hB.fra hC').get 0 rfl)) hgx104)) hM.fr fun a hS => ?_
      obtain ⟨x106, hx, hF⟩ := bind_some hF
      obtain ⟨hi0, hi1, hex106⟩ := idxL_some hx
      refine an_take hS (i := 6) rfl (by kernel_rfl) (by kernel_rfl) (by kernel_rfl) rfl (by decide) (fun c a a' w hd h => hQp c a a' w hd h) rfl (fun w' hC' => (rv_indexAddr Tryd.underlying38 ty_el_3 (hS.ev rfl) (hS.ev rfl) (mx_row (hM.get 0 rfl) hgx104 (mget hex104)) hi0 (map_len hi1))) hM.fr fun a hS => ?_
      refine an_take hS (i := 7) rfl (by kernel_rfl) (by kernel_rfl) (by kernel_rfl) rfl (by decide) (fun c a a' w hd h => hQp c a a' w hd h) rfl (fun w' hC' => (rv_load_el (hS.ev rfl) ty_ag_3 (mx_row ((hB.fra hC').get 0 rfl) hgx104 (mget hex104)) (mget hex106))) hM.fr fun a hS => ?_
      refine an_take hS (i := 10) rfl (by kernel_rfl) (by kernel_rfl) (by kernel_rfl) rfl (by decide) (fun c a a' w hd h => hQp c a a' w hd h) rfl (fun w' hC' => (rv_move (hS.ev rfl))) hM.fr fun a hS => ?_
      refine an_take hS (i := 11) rfl (by kernel_rfl) (by kernel_rfl) (by kernel_rfl) rfl (by decide) (fun c a a' w hd h => hQp c a a' w hd h) rfl (fun w' hC' => (rv_move (hS.ev rfl))) hM.fr fun a hS => ?_
      obtain ⟨x107, hx, hF⟩ := bind_some hF
      obtain ⟨hi0, hi1, hex107⟩ := idxL_some hx
      refine an_take hS (i := 12) rfl (by kernel_rfl) (by kernel_rfl) (by kernel_rfl) rfl (by decide) (fun c a a' w hd h => hQp c a a' w hd h) rfl (fun w' hC' => (rv_indexAddr Tryd.underlying67 ty_el_38 (hS.ev rfl) (hS.ev rfl) (mx_rd (hM.get 0 rfl)) hi0 (mx_lt (hM.get 0 rfl) hi1))) hM.fr fun a hS => ?_
      obtain ⟨v108, hgx107⟩ := mx_get (hM.get 0 rfl) (mget hex107)
      refine an_take hS (i := 13) rfl (by kernel_rfl) (by kernel_rfl) (by kernel_rfl) rfl (by decide) (fun c a a' w hd h => hQp c a a' w hd h) rfl (fun w' hC' => (rv_load_el (hS.ev rfl) ty_ag_38 (mx_rd ((hB.fra hC').get 0 rfl)) hgx107)) hM.fr fun a hS => ?_
      obtain ⟨x109, hx, hF⟩ := bind_some hF
      obtain ⟨hi0, hi1, hex109⟩ := idxL_some hx
      refine an_take hS (i := 14) rfl (by kernel_rfl) (by kernel_rfl) (by kernel_rfl) rfl (by decide) (fun c a a' w hd h => hQp c a a' w hd h) rfl (fun w' hC' => (rv_indexAddr Tryd.underlying38 ty_el_3 (hS.ev rfl) (hS.ev rfl) (mx_row (hM.get 0 rfl) hgx107 (mget hex107)) hi0 (map_len hi1))) hM.fr fun a hS => ?_
      refine an_take hS (i := 15) rfl (by kernel_rfl) (by kernel_rfl) (by kernel_rfl) rfl (by decide) (fun c a a' w hd h => hQp c a a' w hd h) rfl (fun w' hC' => (rv_load_el (hS.ev rfl) ty_ag_3 (mx_row ((hB.fra hC').get 0 rfl) hgx107 (mget hex107)) (mget hex109))) hM.fr fun a hS => ?_
      obtain ⟨r110, hr, hF⟩ := bind_some hF
      refine an_one hS (i := 8) rfl (by kernel_rfl) rfl ?_
      refine wp_call hS rfl rfl (by decide) fn_ok_22 rfl (c_spec_FormatInt F x106 hr _) fun v w a hK hS => ?_
      obtain ⟨rfl, hN⟩ := hK
      have hM := hM.fra hN.fr
      refine ⟨hM.fr, ?_⟩
      obtain ⟨_, hx, hF⟩ := bind_some hF
      have hi0 := catO_some hx
      refine an_take hS (i := 9) rfl (by kernel_rfl) (by kernel_rfl) (by kernel_rfl) rfl (by decide) (fun c a a' w hd h => hQp c a a' w hd h) rfl (fun w' hC' => (rv_str_add (hS.ev rfl) (hS.ev rfl) hi0)) hM.fr fun a hS => ?_
      obtain ⟨r111, hr, hF⟩ := bind_some hF
      refine an_one hS (i := 16) rfl (by kernel_rfl) rfl ?_
      refine wp_call hS rfl rfl (by decide) fn_ok_22 rfl (c_spec_FormatInt F x109 hr _) fun v w a hK hS => ?_
      obtain ⟨rfl, hN⟩ := hK
      have hM := hM.fra hN.fr
      refine ⟨hM.fr, ?_⟩
      obtain ⟨_, hx, hF⟩ := bind_some hF
      have hi0 := catO_some hx
      refine an_take hS (i := 17) rfl (by kernel_rfl) (by kernel_rfl) (by kernel_rfl) rfl (by decide) (fun c a a' w hd h => hQp c a a' w hd h) rfl (fun w' hC' => (rv_str_add (hS.ev rfl) (hS.ev rfl) hi0)) hM.fr fun a hS => ?_
      refine an_take hS (i := 18) rfl (by kernel_rfl) (by kernel_rfl) (by kernel_rfl) rfl (by decide) (fun c a a' w hd h => hQp c a a' w hd h) rfl (fun w' hC' => (rv_assign (hS.ev rfl))) hM.fr fun a hS => ?_
      refine an_done (by kernel_rfl) ?_
      have hN := hM.pick [] (by decide) rfl
      have hM := Mem.callo (A := []) (B := [(true, mx 38 3 v21 hs22 (List.map (List.map (Value.int IntKind.i64)) r20))]) hB rfl (hN.memS fun _ h => h.elim) rfl
      refine hK95 _ _ ?_
      refine wp_region_lit ?_
      refine st_val hS rfl rfl (by decide) (rv_move (hS.ev rfl)) fun a hS => ?_
      refine st_val hS rfl rfl (by decide) (rv_add (hS.ev rfl) (hS.ev rfl)) fun a hS => ?_
      refine st_val hS rfl rfl (by decide) (rv_assign (hS.ev rfl)) fun a hS => ?_
      refine wpList_nil ?_
      cases hF
      exact hN2 _ _ _ rfl ⟨(hS.sub (sub_cons rfl (sub_cons rfl (sub_cons rfl sub_nil)))), (hM.pick [0] (by decide) rfl)⟩
    · refine cond_f hS rfl hc ?_
      refine wp_exit ?_
      cases hF
      exact hJ1 s70 _ _ (hS.sub (sub_cons rfl sub_nil)) (hM.pick [] (by decide) rfl) (by have e := hX2 _ rfl; subst e; exact hF2)


end Go.Proofs.YtgddopammpjkgaaDoor
