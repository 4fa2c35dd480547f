/- Proved here: that each Go function does what its shallow function says -/
import Derived.Test.YtmlgjhgicoggdaaSh
import Derived.Test.YtmlgjhgicoggdaaTy
namespace Go.Proofs.Ytmlgjhgicoggdaa
open Go Go.RowKit
set_option linter.unusedVariables false
set_option linter.unusedSimpArgs false
set_option maxRecDepth 100000

theorem c_laws_FnExactConstants (F : Nat) {r : Bool} (hF : S_laws_FnExactConstants F = some r) (w0 : World) :
    Calls Try.prog 3 [].toArray w0 (retPost fun v w' => v = (Value.bool r) ∧ Mem Nob w0 w' []) := by
  have hM : Mem Nob w0 w0 [] := (Mem.nil w0)
  refine enter2 Try.func3 rfl rfl rfl fun Q a hQr hQn hQp hS => ?_
  have hS : Sl 1 [] a := hS
  unfold S_laws_FnExactConstants at hF
  refine wp_seq_k fun K1 hK1 => ?_
  refine wp_region_lit ?_
  refine st_val hS rfl rfl (by decide) (rv_assign (hS.ev rfl)) fun a hS => ?_
  refine wpList_nil ?_
  refine hK1 _ _ ?_
  refine wp_seq_k fun K2 hK2 => ?_
  refine cond_f hS rfl rfl ?_
  refine wp_skip ?_
  refine hK2 _ _ ?_
  refine wp_seq_k fun K3 hK3 => ?_
  refine cond_f hS rfl rfl ?_
  refine wp_skip ?_
  refine hK3 _ _ ?_
  refine wp_seq_k fun K4 hK4 => ?_
  refine cond_f hS rfl rfl ?_
  refine wp_skip ?_
  refine hK4 _ _ ?_
  refine wp_seq_k fun K5 hK5 => ?_
  refine cond_f hS rfl rfl ?_
  refine wp_skip ?_
  refine hK5 _ _ ?_
  refine wp_seq_k fun K6 hK6 => ?_
  refine cond_f hS rfl rfl ?_
  refine wp_skip ?_
  refine hK6 _ _ ?_
  refine wp_seq_k fun K7 hK7 => ?_
  refine cond_f hS rfl rfl ?_
  refine wp_skip ?_
  refine hK7 _ _ ?_
  refine wp_seq_k fun K8 hK8 => ?_
  refine cond_f hS rfl rfl ?_
  refine wp_skip ?_
  refine hK8 _ _ ?_
  refine wp_seq_k fun K9 hK9 => ?_
  refine cond_f hS rfl rfl ?_
  refine wp_skip ?_
  refine hK9 _ _ ?_
  refine wp_seq_k fun K10 hK10 => ?_
  refine cond_f hS rfl rfl ?_
  refine wp_skip ?_
  refine hK10 _ _ ?_
  refine wp_seq_k fun K11 hK11 => ?_
  refine cond_f hS rfl rfl ?_
  refine wp_skip ?_
  refine hK11 _ _ ?_
  refine wp_seq_k fun K12 hK12 => ?_
  refine cond_f hS rfl rfl ?_
  refine wp_skip ?_
  refine hK12 _ _ ?_
  refine wp_seq_k fun K13 hK13 => ?_
  refine cond_f hS rfl rfl ?_
  refine wp_skip ?_
  refine hK13 _ _ ?_
  refine wp_seq_k fun K14 hK14 => ?_
  refine cond_f hS rfl rfl ?_
  refine wp_skip ?_
  refine hK14 _ _ ?_
  refine wp_seq_k fun K15 hK15 => ?_
  refine cond_f hS rfl rfl ?_
  refine wp_skip ?_
  refine hK15 _ _ ?_
  refine wp_seq_k fun K16 hK16 => ?_
  refine cond_f hS rfl rfl ?_
  refine wp_skip ?_
  refine hK16 _ _ ?_
  refine wp_seq_k fun K17 hK17 => ?_
  refine cond_f hS rfl rfl ?_
  refine wp_skip ?_
  refine hK17 _ _ ?_
  refine wp_seq_k fun K18 hK18 => ?_
  refine cond_f hS rfl rfl ?_
  refine wp_skip ?_
  refine hK18 _ _ ?_
  refine wp_seq_k fun K19 hK19 => ?_
  refine cond_f hS rfl rfl ?_
  refine wp_skip ?_
  refine hK19 _ _ ?_
  refine wp_seq_k fun K20 hK20 => ?_
  refine cond_f hS rfl rfl ?_
  refine wp_skip ?_
  refine hK20 _ _ ?_
  refine wp_seq_k fun K21 hK21 => ?_
  refine cond_f hS rfl rfl ?_
  refine wp_skip ?_
  refine hK21 _ _ ?_
  refine wp_seq_k fun K22 hK22 => ?_
  refine cond_f hS rfl rfl ?_
  refine wp_skip ?_
  refine hK22 _ _ ?_
  refine wp_seq_k fun K23 hK23 => ?_
  refine wp_region_lit ?_
  refine st_val hS rfl rfl (by decide) (rv_assign (hS.ev rfl)) fun a hS => ?_
  refine wpList_nil ?_
  refine hK23 _ _ ?_
  refine wp_ret ?_
  cases hF
  exact hQr _ _ (r_1 hS rfl rfl ⟨rfl, hM.pick [] (by decide) rfl⟩)


theorem c_spec_l1Digit (F : Nat) (p0_k : Int) {r : Int} (hF : S_spec_l1Digit F p0_k = some r) (w0 : World) :
    Calls Try.prog 19 [(Value.int IntKind.i64 p0_k)].toArray w0 (retPost fun v w' => v = (Value.int IntKind.u8 r) ∧ Mem Nob w0 w' []) := by
  have hM : Mem Nob w0 w0 [] := (Mem.nil w0)
  refine enter2 Try.func19 rfl rfl rfl fun Q a hQr hQn hQp hS => ?_
  have hS : Sl 5 [(0, (Value.int IntKind.i64 p0_k))] a := hS
  unfold S_spec_l1Digit at hF
  refine wp_seq_k fun K1 hK1 => ?_
  refine wp_region_lit ?_
  refine st_val hS rfl rfl (by decide) (rv_assign (hS.ev rfl)) fun a hS => ?_
  refine wpList_nil ?_
  refine hK1 _ _ ?_
  refine wp_seq_k fun K2 hK2 => ?_
  refine wp_region_lit ?_
  refine st_val hS rfl rfl (by decide) (rv_move (hS.ev rfl)) fun a hS => ?_
  obtain ⟨x4, hx, hF⟩ := bind_some hF
  obtain ⟨hi0, hi1, hi2⟩ := idxL_some hx
  refine st_val hS rfl rfl (by decide) (rv_index Try.underlying9 (hS.ev rfl) (hS.ev rfl) hi0 hi2) fun a hS => ?_
  refine st_val hS rfl rfl (by decide) (rv_assign (hS.ev rfl)) fun a hS => ?_
  refine wpList_nil ?_
  refine hK2 _ _ ?_
  refine wp_ret ?_
  cases hF
  exact hQr _ _ (r_1 hS rfl rfl ⟨rfl, hM.pick [] (by decide) rfl⟩)


theorem c_spec_EncodeHex (F : Nat) (p0_s : List UInt8) {r : (List UInt8)} (hF : S_spec_EncodeHex F p0_s = some r) (w0 : World) :
    Calls Try.prog 9 [(Value.string (bs p0_s))].toArray w0 (retPost fun v w' => v = (Value.string (bs r)) ∧ Mem Nob w0 w' []) := by
  have hM : Mem Nob w0 w0 [] := (Mem.nil w0)
  refine enter2 Try.func9 rfl rfl rfl fun Q a hQr hQn hQp hS => ?_
  have hS : Sl 29 [(0, (Value.string (bs p0_s)))] a := hS
  unfold S_spec_EncodeHex at hF
  refine wp_seq_k fun K1 hK1 => ?_
  refine wp_region_lit ?_
  refine st_val hS rfl rfl (by decide) (rv_assign (hS.ev rfl)) fun a hS => ?_
  refine wpList_nil ?_
  refine hK1 _ _ ?_
  refine wp_seq_k fun K2 hK2 => ?_
  refine wp_region_lit ?_
  obtain ⟨v4, w, hr, hM⟩ := Mem.litE (f := (Value.int IntKind.u8)) (dst := some 5) (ty := _) (pos := _) (af := _) (gd := _) (ps := []) ([] : List (Int)) u8_one hM hS Try.underlying33 ty_el_5 rfl rfl rfl rfl
  refine st_val hS rfl rfl (by decide) hr fun a hS => ?_
  refine st_val hS rfl rfl (by decide) (rv_assign (hS.ev rfl)) fun a hS => ?_
  refine wpList_nil ?_
  refine hK2 _ _ ?_
  refine wp_seq_k fun K5 hK5 => ?_
  have hJ1 : ∀ (l43 : List Int) (v42 : Value) (a : Act) (w : World), Sl 29 [(3, v42)] a → Mem Nob w0 w [(true, ow 5 v42 (List.map (Value.int IntKind.u8) l43))] → S_spec_EncodeHex_j1 F l43 = some r → K5 a w := by
    intro l43 v42 a w hS hM hF
    unfold S_spec_EncodeHex_j1 at hF
    refine hK5 _ _ ?_
    refine wp_seq_k fun K44 hK44 => ?_
    refine wp_region_lit ?_
    refine st_val hS rfl rfl (by decide) (rv_move (hS.ev rfl)) fun a hS => ?_
    refine st_val hS rfl rfl (by decide) (rv_bstr Try.underlying33 Try.underlying5 Try.underlying9 (hS.ev rfl) (rd_of_ow (hM.get 0 rfl))) fun a hS => ?_
    refine st_val hS rfl rfl (by decide) (rv_assign (hS.ev rfl)) fun a hS => ?_
    refine wpList_nil ?_
    refine hK44 _ _ ?_
    refine wp_ret ?_
    cases hF
    exact hQr _ _ (r_1 hS rfl rfl ⟨rfl, hM.pick [] (by decide) rfl⟩)
  refine wp_seq_k fun K45 hK45 => ?_
  refine wp_region_lit ?_
  refine st_val hS rfl rfl (by decide) (rv_assign (hS.ev rfl)) fun a hS => ?_
  refine wpList_nil ?_
  refine hK45 _ _ ?_
  refine wp_block ?_
  obtain ⟨lb2, hl2, hF2⟩ := bind_some hF
  refine wp_loop_sh (fun s => S_spec_EncodeHex_l2 F p0_s s.1 s.2) (fun s a w => ∃ (v46 : Value), Sl 29 [(0, (Value.string (bs p0_s))), (3, v46), (4, (Value.int IntKind.i64 s.2))] a ∧ Mem Nob w0 w [(true, ow 5 v46 (List.map (Value.int IntKind.u8) s.1))]) hl2 ⟨v4, (hS.sub (sub_cons rfl (sub_cons rfl (sub_cons rfl sub_nil)))), (hM.pick [0] (by decide) rfl)⟩ ?_
  rintro K2 ⟨l47, x48⟩ a w res2 ⟨v46, hS, hM⟩ hF hN2 hX2
  have hF : S_spec_EncodeHex_l2 F p0_s l47 x48 = some res2 := hF
  have hS : Sl 29 [(0, (Value.string (bs p0_s))), (3, v46), (4, (Value.int IntKind.i64 x48))] a := hS
  have hM : Mem Nob w0 w [(true, ow 5 v46 (List.map (Value.int IntKind.u8) l47))] := hM
  unfold S_spec_EncodeHex_l2 at hF
  refine wp_seq_k fun K65 hK65 => ?_
  refine wp_seq_k fun K67 hK67 => ?_
  refine wp_region_lit ?_
  refine st_val hS rfl rfl (by decide) (rv_move (hS.ev rfl)) fun a hS => ?_
  refine st_val hS rfl rfl (by decide) (rv_move (hS.ev rfl)) fun a hS => ?_
  refine st_val hS rfl rfl (by decide) (rv_len_str Try.underlying9 (hS.ev rfl)) fun a hS => ?_
  refine st_val hS rfl rfl (by decide) (rv_lss (hS.ev rfl) (hS.ev rfl)) fun a hS => ?_
  refine wpList_nil ?_
  refine hK67 _ _ ?_
  rcases ite_some hF with ⟨hc, hF⟩ | ⟨hc, hF⟩
  · refine cond_t hS rfl hc ?_
    refine wp_skip ?_
    refine hK65 _ _ ?_
    refine wp_seq_k fun K68 hK68 => ?_
    refine wp_block ?_
    refine an_start (feet [(true, ow 5 v46 (List.map (Value.int IntKind.u8) l47))]) ty_mixed fun w hf => ?_
    have hM := hM.fra hf
    have hB := hM
    have hM := hB.reg1 rfl
    refine an_take hS (i := 0) rfl (by kernel_rfl) (by kernel_rfl) (by kernel_rfl) rfl (by decide) (fun c a a' w hd h => hQp c a a' w hd h) rfl (fun w' hC' => (rv_move (hS.ev rfl))) hM.fr fun a hS => ?_
    refine an_take hS (i := 1) rfl (by kernel_rfl) (by kernel_rfl) (by kernel_rfl) rfl (by decide) (fun c a a' w hd h => hQp c a a' w hd h) rfl (fun w' hC' => (rv_move (hS.ev rfl))) hM.fr fun a hS => ?_
    refine an_take hS (i := 2) rfl (by kernel_rfl) (by kernel_rfl) (by kernel_rfl) rfl (by decide) (fun c a a' w hd h => hQp c a a' w hd h) rfl (fun w' hC' => (rv_move (hS.ev rfl))) hM.fr fun a hS => ?_
    obtain ⟨x75, hx, hF⟩ := bind_some hF
    obtain ⟨hi0, hi1, hi2⟩ := idxL_some hx
    refine an_take hS (i := 3) rfl (by kernel_rfl) (by kernel_rfl) (by kernel_rfl) rfl (by decide) (fun c a a' w hd h => hQp c a a' w hd h) rfl (fun w' hC' => (rv_index Try.underlying9 (hS.ev rfl) (hS.ev rfl) hi0 hi2)) hM.fr fun a hS => ?_
    refine an_take hS (i := 4) rfl (by kernel_rfl) (by kernel_rfl) (by kernel_rfl) rfl (by decide) (fun c a a' w hd h => hQp c a a' w hd h) rfl (fun w' hC' => (rv_conv Try.underlying5 Try.underlying3 (hS.ev rfl))) hM.fr fun a hS => ?_
    refine an_take hS (i := 5) rfl (by kernel_rfl) (by kernel_rfl) (by kernel_rfl) rfl (by decide) (fun c a a' w hd h => hQp c a a' w hd h) rfl (fun w' hC' => (rv_quo (hS.ev rfl) (hS.ev rfl) (by decide))) hM.fr fun a hS => ?_
    refine an_take hS (i := 7) rfl (by kernel_rfl) (by kernel_rfl) (by kernel_rfl) rfl (by decide) (fun c a a' w hd h => hQp c a a' w hd h) rfl (fun w' hC' => (rv_move (hS.ev rfl))) hM.fr fun a hS => ?_
    refine an_take hS (i := 8) rfl (by kernel_rfl) (by kernel_rfl) (by kernel_rfl) rfl (by decide) (fun c a a' w hd h => hQp c a a' w hd h) rfl (fun w' hC' => (rv_move (hS.ev rfl))) hM.fr fun a hS => ?_
    obtain ⟨x76, hx, hF⟩ := bind_some hF
    obtain ⟨hi0, hi1, hi2⟩ := idxL_some hx
    refine an_take hS (i := 9) rfl (by kernel_rfl) (by kernel_rfl) (by kernel_rfl) rfl (by decide) (fun c a a' w hd h => hQp c a a' w hd h) rfl (fun w' hC' => (rv_index Try.underlying9 (hS.ev rfl) (hS.ev rfl) hi0 hi2)) hM.fr fun a hS => ?_
    refine an_take hS (i := 10) rfl (by kernel_rfl) (by kernel_rfl) (by kernel_rfl) rfl (by decide) (fun c a a' w hd h => hQp c a a' w hd h) rfl (fun w' hC' => (rv_conv Try.underlying5 Try.underlying3 (hS.ev rfl))) hM.fr fun a hS => ?_
    refine an_take hS (i := 11) rfl (by kernel_rfl) (by kernel_rfl) (by kernel_rfl) rfl (by decide) (fun c a a' w hd h => hQp c a a' w hd h) rfl (fun w' hC' => (rv_rem (hS.ev rfl) (hS.ev rfl) (by decide))) hM.fr fun a hS => ?_
    obtain ⟨r77, hr, hF⟩ := bind_some hF
    refine an_one hS (i := 6) rfl (by kernel_rfl) rfl (wp_call hS rfl rfl (by decide) fn_ok_19 rfl (c_spec_l1Digit F (IntKind.i64.wrap ((IntKind.i64.wrap (x75.toNat : Int)).tdiv 16)) hr _) fun v w a hK hS => ?_)
    obtain ⟨rfl, hN⟩ := hK
    have hM := hM.fra hN.fr
    refine ⟨hM.fr, ?_⟩
    obtain ⟨r78, hr, hF⟩ := bind_some hF
    refine an_one hS (i := 12) rfl (by kernel_rfl) rfl (wp_call hS rfl rfl (by decide) fn_ok_19 rfl (c_spec_l1Digit F ((IntKind.i64.wrap (x76.toNat : Int)).tmod 16) hr _) fun v w a hK hS => ?_)
    obtain ⟨rfl, hN⟩ := hK
    have hM := hM.fra hN.fr
    refine ⟨hM.fr, ?_⟩
    obtain ⟨v79, w, hr, hM⟩ := Mem.litE (f := (Value.int IntKind.u8)) (dst := some 25) (ty := _) (pos := _) (af := _) (gd := _) (ps := [(0, .tmp 18), (1, .tmp 24)]) ([r77, r78] : List (Int)) u8_one hM hS Try.underlying33 ty_el_5 rfl rfl rfl rfl
    refine an_one hS (i := 13) rfl (by kernel_rfl) rfl (wp_val hS rfl (by decide) hr fun a hS => ⟨hM.fr, ?_⟩)
    obtain ⟨_, hx, hF⟩ := bind_some hF
    have hM := hM.pick [1, 0] (by decide) rfl
    obtain ⟨v80, w, hr, hM⟩ := Mem.appE (f := (Value.int IntKind.u8)) (S := _) (R := [(true, ow 5 v79 (List.map (Value.int IntKind.u8) ([r77, r78] : List (Int))))]) (ρ := a.eval) (dst := some 26) (ty := _) (pos := _) (af := _) (gd := _) (x := .tmp 12) (y := .tmp 25) u8_one hM Try.underlying33 ty_el_5 rfl (by decide) (hS.ev rfl) (hS.ev rfl) (rd_of_ow (hM.get 1 rfl)) (catO_some hx)
    refine an_one hS (i := 14) rfl (by kernel_rfl) rfl (wp_val hS rfl (by decide) hr fun a hS => ⟨hM.fr, ?_⟩)
    refine an_take hS (i := 15) rfl (by kernel_rfl) (by kernel_rfl) (by kernel_rfl) rfl (by decide) (fun c a a' w hd h => hQp c a a' w hd h) rfl (fun w' hC' => (rv_assign (hS.ev rfl))) hM.fr fun a hS => ?_
    refine an_done (by kernel_rfl) ?_
    have hN := hM.pick [0, 1] (by decide) rfl
    have hM := Mem.callo (A := [(true, ow 5 v46 (List.map (Value.int IntKind.u8) l47))]) (B := []) hB rfl (hN.memS fun _ h => h) rfl
    refine hK68 _ _ ?_
    refine wp_region_lit ?_
    refine st_val hS rfl rfl (by decide) (rv_move (hS.ev rfl)) fun a hS => ?_
    refine st_val hS rfl rfl (by decide) (rv_add (hS.ev rfl) (hS.ev rfl)) fun a hS => ?_
    refine st_val hS rfl rfl (by decide) (rv_assign (hS.ev rfl)) fun a hS => ?_
    refine wpList_nil ?_
    cases hF
    exact hN2 _ _ _ rfl ⟨v80, (hS.sub (sub_cons rfl (sub_cons rfl (sub_cons rfl sub_nil)))), (hM.pick [0] (by decide) rfl)⟩
  · refine cond_f hS rfl hc ?_
    refine wp_exit ?_
    cases hF
    exact hJ1 l47 v46 _ _ (hS.sub (sub_cons rfl sub_nil)) (hM.pick [0] (by decide) rfl) (by have e := hX2 _ rfl; subst e; exact hF2)


theorem c_impl_EncodeHex (F : Nat) (p0_s : List UInt8) {r : (List UInt8)} (hF : S_impl_EncodeHex F p0_s = some r) (w0 : World) :
    Calls Try.prog 10 [(Value.string (bs p0_s))].toArray w0 (retPost fun v w' => v = (Value.string (bs r)) ∧ Mem Nob w0 w' []) := by
  have hM : Mem Nob w0 w0 [] := (Mem.nil w0)
  refine enter2 Try.func10 rfl rfl rfl fun Q a hQr hQn hQp hS => ?_
  have hS : Sl 27 [(0, (Value.string (bs p0_s)))] a := hS
  unfold S_impl_EncodeHex at hF
  refine wp_seq_k fun K1 hK1 => ?_
  refine wp_region_lit ?_
  refine st_val hS rfl rfl (by decide) (rv_assign (hS.ev rfl)) fun a hS => ?_
  refine wpList_nil ?_
  refine hK1 _ _ ?_
  refine wp_seq_k fun K2 hK2 => ?_
  refine wp_region_lit ?_
  obtain ⟨v4, w, hr, hM⟩ := Mem.litE (f := (Value.int IntKind.u8)) (dst := some 5) (ty := _) (pos := _) (af := _) (gd := _) (ps := []) ([] : List (Int)) u8_one hM hS Try.underlying33 ty_el_5 rfl rfl rfl rfl
  refine st_val hS rfl rfl (by decide) hr fun a hS => ?_
  refine st_val hS rfl rfl (by decide) (rv_assign (hS.ev rfl)) fun a hS => ?_
  refine wpList_nil ?_
  refine hK2 _ _ ?_
  refine wp_seq_k fun K5 hK5 => ?_
  have hJ1 : ∀ (l43 : List Int) (v42 : Value) (a : Act) (w : World), Sl 27 [(3, v42)] a → Mem Nob w0 w [(true, ow 5 v42 (List.map (Value.int IntKind.u8) l43))] → S_impl_EncodeHex_j1 F l43 = some r → K5 a w := by
    intro l43 v42 a w hS hM hF
    unfold S_impl_EncodeHex_j1 at hF
    refine hK5 _ _ ?_
    refine wp_seq_k fun K44 hK44 => ?_
    refine wp_region_lit ?_
    refine st_val hS rfl rfl (by decide) (rv_move (hS.ev rfl)) fun a hS => ?_
    refine st_val hS rfl rfl (by decide) (rv_bstr Try.underlying33 Try.underlying5 Try.underlying9 (hS.ev rfl) (rd_of_ow (hM.get 0 rfl))) fun a hS => ?_
    refine st_val hS rfl rfl (by decide) (rv_assign (hS.ev rfl)) fun a hS => ?_
    refine wpList_nil ?_
    refine hK44 _ _ ?_
    refine wp_ret ?_
    cases hF
    exact hQr _ _ (r_1 hS rfl rfl ⟨rfl, hM.pick [] (by decide) rfl⟩)
  refine wp_seq_k fun K45 hK45 => ?_
  refine wp_region_lit ?_
  refine st_val hS rfl rfl (by decide) (rv_assign (hS.ev rfl)) fun a hS => ?_
  refine wpList_nil ?_
  refine hK45 _ _ ?_
  refine wp_block ?_
  obtain ⟨lb2, hl2, hF2⟩ := bind_some hF
  refine wp_loop_sh (fun s => S_impl_EncodeHex_l2 F p0_s s.1 s.2) (fun s a w => ∃ (v46 : Value), Sl 27 [(0, (Value.string (bs p0_s))), (3, v46), (4, (Value.int IntKind.i64 s.2))] a ∧ Mem Nob w0 w [(true, ow 5 v46 (List.map (Value.int IntKind.u8) s.1))]) hl2 ⟨v4, (hS.sub (sub_cons rfl (sub_cons rfl (sub_cons rfl sub_nil)))), (hM.pick [0] (by decide) rfl)⟩ ?_
  rintro K2 ⟨l47, x48⟩ a w res2 ⟨v46, hS, hM⟩ hF hN2 hX2
  have hF : S_impl_EncodeHex_l2 F p0_s l47 x48 = some res2 := hF
  have hS : Sl 27 [(0, (Value.string (bs p0_s))), (3, v46), (4, (Value.int IntKind.i64 x48))] a := hS
  have hM : Mem Nob w0 w [(true, ow 5 v46 (List.map (Value.int IntKind.u8) l47))] := hM
  unfold S_impl_EncodeHex_l2 at hF
  refine wp_seq_k fun K65 hK65 => ?_
  refine wp_seq_k fun K67 hK67 => ?_
  refine wp_region_lit ?_
  refine st_val hS rfl rfl (by decide) (rv_move (hS.ev rfl)) fun a hS => ?_
  refine st_val hS rfl rfl (by decide) (rv_move (hS.ev rfl)) fun a hS => ?_
  refine st_val hS rfl rfl (by decide) (rv_len_str Try.underlying9 (hS.ev rfl)) fun a hS => ?_
  refine st_val hS rfl rfl (by decide) (rv_lss (hS.ev rfl) (hS.ev rfl)) fun a hS => ?_
  refine wpList_nil ?_
  refine hK67 _ _ ?_
  rcases ite_some hF with ⟨hc, hF⟩ | ⟨hc, hF⟩
  · refine cond_t hS rfl hc ?_
    refine wp_skip ?_
    refine hK65 _ _ ?_
    refine wp_seq_k fun K68 hK68 => ?_
    refine wp_block ?_
    refine an_start (feet [(true, ow 5 v46 (List.map (Value.int IntKind.u8) l47))]) ty_mixed fun w hf => ?_
    have hM := hM.fra hf
    have hB := hM
    have hM := hB.reg1 rfl
    refine an_take hS (i := 0) rfl (by kernel_rfl) (by kernel_rfl) (by kernel_rfl) rfl (by decide) (fun c a a' w hd h => hQp c a a' w hd h) rfl (fun w' hC' => (rv_move (hS.ev rfl))) hM.fr fun a hS => ?_
    refine an_take hS (i := 1) rfl (by kernel_rfl) (by kernel_rfl) (by kernel_rfl) rfl (by decide) (fun c a a' w hd h => hQp c a a' w hd h) rfl (fun w' hC' => (rv_move (hS.ev rfl))) hM.fr fun a hS => ?_
    refine an_take hS (i := 2) rfl (by kernel_rfl) (by kernel_rfl) (by kernel_rfl) rfl (by decide) (fun c a a' w hd h => hQp c a a' w hd h) rfl (fun w' hC' => (rv_move (hS.ev rfl))) hM.fr fun a hS => ?_
    obtain ⟨x75, hx, hF⟩ := bind_some hF
    obtain ⟨hi0, hi1, hi2⟩ := idxL_some hx
    refine an_take hS (i := 3) rfl (by kernel_rfl) (by kernel_rfl) (by kernel_rfl) rfl (by decide) (fun c a a' w hd h => hQp c a a' w hd h) rfl (fun w' hC' => (rv_index Try.underlying9 (hS.ev rfl) (hS.ev rfl) hi0 hi2)) hM.fr fun a hS => ?_
    refine an_take hS (i := 4) rfl (by kernel_rfl) (by kernel_rfl) (by kernel_rfl) rfl (by decide) (fun c a a' w hd h => hQp c a a' w hd h) rfl (fun w' hC' => (rv_quo (hS.ev rfl) (hS.ev rfl) (by decide))) hM.fr fun a hS => ?_
    obtain ⟨x76, hx, hF⟩ := bind_some hF
    obtain ⟨hi0, hi1, hi2⟩ := idxL_some hx
    refine an_take hS (i := 5) rfl (by kernel_rfl) (by kernel_rfl) (by kernel_rfl) rfl (by decide) (fun c a a' w hd h => hQp c a a' w hd h) rfl (fun w' hC' => (rv_index Try.underlying9 (hS.ev rfl) (hS.ev rfl) hi0 hi2)) hM.fr fun a hS => ?_
    refine an_take hS (i := 6) rfl (by kernel_rfl) (by kernel_rfl) (by kernel_rfl) rfl (by decide) (fun c a a' w hd h => hQp c a a' w hd h) rfl (fun w' hC' => (rv_move (hS.ev rfl))) hM.fr fun a hS => ?_
    refine an_take hS (i := 7) rfl (by kernel_rfl) (by kernel_rfl) (by kernel_rfl) rfl (by decide) (fun c a a' w hd h => hQp c a a' w hd h) rfl (fun w' hC' => (rv_move (hS.ev rfl))) hM.fr fun a hS => ?_
    obtain ⟨x77, hx, hF⟩ := bind_some hF
    obtain ⟨hi0, hi1, hi2⟩ := idxL_some hx
    refine an_take hS (i := 8) rfl (by kernel_rfl) (by kernel_rfl) (by kernel_rfl) rfl (by decide) (fun c a a' w hd h => hQp c a a' w hd h) rfl (fun w' hC' => (rv_index Try.underlying9 (hS.ev rfl) (hS.ev rfl) hi0 hi2)) hM.fr fun a hS => ?_
    refine an_take hS (i := 9) rfl (by kernel_rfl) (by kernel_rfl) (by kernel_rfl) rfl (by decide) (fun c a a' w hd h => hQp c a a' w hd h) rfl (fun w' hC' => (rv_rem (hS.ev rfl) (hS.ev rfl) (by decide))) hM.fr fun a hS => ?_
    obtain ⟨x78, hx, hF⟩ := bind_some hF
    obtain ⟨hi0, hi1, hi2⟩ := idxL_some hx
    refine an_take hS (i := 10) rfl (by kernel_rfl) (by kernel_rfl) (by kernel_rfl) rfl (by decide) (fun c a a' w hd h => hQp c a a' w hd h) rfl (fun w' hC' => (rv_index Try.underlying9 (hS.ev rfl) (hS.ev rfl) hi0 hi2)) hM.fr fun a hS => ?_
    obtain ⟨v79, w, hr, hM⟩ := Mem.litE (f := (Value.int IntKind.u8)) (dst := some 23) (ty := _) (pos := _) (af := _) (gd := _) (ps := [(0, .tmp 17), (1, .tmp 22)]) ([(x76.toNat : Int), (x78.toNat : Int)] : List (Int)) u8_one hM hS Try.underlying33 ty_el_5 rfl rfl rfl rfl
    refine an_one hS (i := 11) rfl (by kernel_rfl) rfl (wp_val hS rfl (by decide) hr fun a hS => ⟨hM.fr, ?_⟩)
    obtain ⟨_, hx, hF⟩ := bind_some hF
    have hM := hM.pick [1, 0] (by decide) rfl
    obtain ⟨v80, w, hr, hM⟩ := Mem.appE (f := (Value.int IntKind.u8)) (S := _) (R := [(true, ow 5 v79 (List.map (Value.int IntKind.u8) ([(x76.toNat : Int), (x78.toNat : Int)] : List (Int))))]) (ρ := a.eval) (dst := some 24) (ty := _) (pos := _) (af := _) (gd := _) (x := .tmp 12) (y := .tmp 23) u8_one hM Try.underlying33 ty_el_5 rfl (by decide) (hS.ev rfl) (hS.ev rfl) (rd_of_ow (hM.get 1 rfl)) (catO_some hx)
    refine an_one hS (i := 12) rfl (by kernel_rfl) rfl (wp_val hS rfl (by decide) hr fun a hS => ⟨hM.fr, ?_⟩)
    refine an_take hS (i := 13) rfl (by kernel_rfl) (by kernel_rfl) (by kernel_rfl) rfl (by decide) (fun c a a' w hd h => hQp c a a' w hd h) rfl (fun w' hC' => (rv_assign (hS.ev rfl))) hM.fr fun a hS => ?_
    refine an_done (by kernel_rfl) ?_
    have hN := hM.pick [0, 1] (by decide) rfl
    have hM := Mem.callo (A := [(true, ow 5 v46 (List.map (Value.int IntKind.u8) l47))]) (B := []) hB rfl (hN.memS fun _ h => h) rfl
    refine hK68 _ _ ?_
    refine wp_region_lit ?_
    refine st_val hS rfl rfl (by decide) (rv_move (hS.ev rfl)) fun a hS => ?_
    refine st_val hS rfl rfl (by decide) (rv_add (hS.ev rfl) (hS.ev rfl)) fun a hS => ?_
    refine st_val hS rfl rfl (by decide) (rv_assign (hS.ev rfl)) fun a hS => ?_
    refine wpList_nil ?_
    cases hF
    exact hN2 _ _ _ rfl ⟨v80, (hS.sub (sub_cons rfl (sub_cons rfl (sub_cons rfl sub_nil)))), (hM.pick [0] (by decide) rfl)⟩
  · refine cond_f hS rfl hc ?_
    refine wp_exit ?_
    cases hF
    exact hJ1 l47 v46 _ _ (hS.sub (sub_cons rfl sub_nil)) (hM.pick [0] (by decide) rfl) (by have e := hX2 _ rfl; subst e; exact hF2)


theorem c_laws_FnExactEncodeHex (F : Nat) (p0_aS : List UInt8) {r : Bool} (hF : S_laws_FnExactEncodeHex F p0_aS = some r) (w0 : World) :
    Calls Try.prog 4 [(Value.string (bs p0_aS))].toArray w0 (retPost fun v w' => v = (Value.bool r) ∧ Mem Nob w0 w' []) := by
  have hM : Mem Nob w0 w0 [] := (Mem.nil w0)
  refine enter2 Try.func4 rfl rfl rfl fun Q a hQr hQn hQp hS => ?_
  have hS : Sl 15 [(0, (Value.string (bs p0_aS)))] a := hS
  unfold S_laws_FnExactEncodeHex at hF
  refine wp_seq_k fun K1 hK1 => ?_
  refine wp_region_lit ?_
  refine st_val hS rfl rfl (by decide) (rv_assign (hS.ev rfl)) fun a hS => ?_
  refine wpList_nil ?_
  refine hK1 _ _ ?_
  refine wp_seq_k fun K2 hK2 => ?_
  refine wp_seq_k fun K5 hK5 => ?_
  refine wp_region_lit ?_
  refine st_val hS rfl rfl (by decide) (rv_move (hS.ev rfl)) fun a hS => ?_
  refine st_val hS rfl rfl (by decide) (rv_len_str Try.underlying9 (hS.ev rfl)) fun a hS => ?_
  refine st_val hS rfl rfl (by decide) (rv_gtr (hS.ev rfl) (hS.ev rfl)) fun a hS => ?_
  refine wpList_nil ?_
  refine hK5 _ _ ?_
  rcases ite_some hF with ⟨hc, hF⟩ | ⟨hc, hF⟩
  · refine cond_t hS rfl hc ?_
    refine wp_seq_k fun K6 hK6 => ?_
    refine wp_region_lit ?_
    refine st_val hS rfl rfl (by decide) (rv_assign (hS.ev rfl)) fun a hS => ?_
    refine wpList_nil ?_
    refine hK6 _ _ ?_
    refine wp_ret ?_
    cases hF
    exact hQr _ _ (r_1 hS rfl rfl ⟨rfl, hM.pick [] (by decide) rfl⟩)
  · refine cond_f hS rfl hc ?_
    refine wp_skip ?_
    refine hK2 _ _ ?_
    refine wp_seq_k fun K7 hK7 => ?_
    refine wp_region_lit ?_
    refine st_val hS rfl rfl (by decide) (rv_move (hS.ev rfl)) fun a hS => ?_
    obtain ⟨r9, hr, hF⟩ := bind_some hF
    refine st_wp hS rfl (wp_call hS rfl rfl (by decide) fn_ok_9 rfl (c_spec_EncodeHex F p0_aS hr _) fun v w a hK hS => ?_)
    obtain ⟨rfl, hN⟩ := hK
    have hM := hM.fra hN.fr
    refine st_val hS rfl rfl (by decide) (rv_assign (hS.ev rfl)) fun a hS => ?_
    refine wpList_nil ?_
    refine hK7 _ _ ?_
    refine wp_seq_k fun K10 hK10 => ?_
    refine wp_region_lit ?_
    refine st_val hS rfl rfl (by decide) (rv_move (hS.ev rfl)) fun a hS => ?_
    obtain ⟨r12, hr, hF⟩ := bind_some hF
    refine st_wp hS rfl (wp_call hS rfl rfl (by decide) fn_ok_10 rfl (c_impl_EncodeHex F p0_aS hr _) fun v w a hK hS => ?_)
    obtain ⟨rfl, hN⟩ := hK
    have hM := hM.fra hN.fr
    refine st_val hS rfl rfl (by decide) (rv_assign (hS.ev rfl)) fun a hS => ?_
    refine wpList_nil ?_
    refine hK10 _ _ ?_
    refine wp_seq_k fun K13 hK13 => ?_
    refine wp_seq_k fun K16 hK16 => ?_
    refine wp_region_lit ?_
    refine st_val hS rfl rfl (by decide) (rv_move (hS.ev rfl)) fun a hS => ?_
    refine st_val hS rfl rfl (by decide) (rv_move (hS.ev rfl)) fun a hS => ?_
    refine st_val hS rfl rfl (by decide) (rv_str_neq (hS.ev rfl) (hS.ev rfl)) fun a hS => ?_
    refine wpList_nil ?_
    refine hK16 _ _ ?_
    rcases ite_some hF with ⟨hc, hF⟩ | ⟨hc, hF⟩
    · refine cond_t hS rfl hc ?_
      refine wp_seq_k fun K17 hK17 => ?_
      refine wp_region_lit ?_
      refine st_val hS rfl rfl (by decide) (rv_assign (hS.ev rfl)) fun a hS => ?_
      refine wpList_nil ?_
      refine hK17 _ _ ?_
      refine wp_ret ?_
      cases hF
      exact hQr _ _ (r_1 hS rfl rfl ⟨rfl, hM.pick [] (by decide) rfl⟩)
    · refine cond_f hS rfl hc ?_
      refine wp_skip ?_
      refine hK13 _ _ ?_
      refine wp_seq_k fun K18 hK18 => ?_
      refine wp_region_lit ?_
      refine st_val hS rfl rfl (by decide) (rv_assign (hS.ev rfl)) fun a hS => ?_
      refine wpList_nil ?_
      refine hK18 _ _ ?_
      refine wp_ret ?_
      cases hF
      exact hQr _ _ (r_1 hS rfl rfl ⟨rfl, hM.pick [] (by decide) rfl⟩)


theorem c_spec_l1In (F : Nat) (p0_x : Int) (p1_low : Int) (p2_high : Int) {r : Bool} (hF : S_spec_l1In F p0_x p1_low p2_high = some r) (w0 : World) :
    Calls Try.prog 20 [(Value.int IntKind.i64 p0_x), (Value.int IntKind.i64 p1_low), (Value.int IntKind.i64 p2_high)].toArray w0 (retPost fun v w' => v = (Value.bool r) ∧ Mem Nob w0 w' []) := by
  have hM : Mem Nob w0 w0 [] := (Mem.nil w0)
  refine enter2 Try.func20 rfl rfl rfl fun Q a hQr hQn hQp hS => ?_
  have hS : Sl 15 [(0, (Value.int IntKind.i64 p0_x)), (1, (Value.int IntKind.i64 p1_low)), (2, (Value.int IntKind.i64 p2_high))] a := hS
  unfold S_spec_l1In at hF
  refine wp_seq_k fun K1 hK1 => ?_
  refine wp_region_lit ?_
  refine st_val hS rfl rfl (by decide) (rv_assign (hS.ev rfl)) fun a hS => ?_
  refine wpList_nil ?_
  refine hK1 _ _ ?_
  refine wp_seq_k fun K2 hK2 => ?_
  have hJ1 : ∀ (p3 : Bool) (a : Act) (w : World), Sl 15 [(6, (Value.bool p3))] a → Mem Nob w0 w [] → S_spec_l1In_j1 F p3 = some r → K2 a w := by
    intro p3 a w hS hM hF
    unfold S_spec_l1In_j1 at hF
    refine hK2 _ _ ?_
    refine wp_ret ?_
    cases hF
    exact hQr _ _ (r_1 hS rfl rfl ⟨rfl, hM.pick [] (by decide) rfl⟩)
  refine wp_region_lit ?_
  refine st_val hS rfl rfl (by decide) (rv_move (hS.ev rfl)) fun a hS => ?_
  refine st_val hS rfl rfl (by decide) (rv_move (hS.ev rfl)) fun a hS => ?_
  refine st_val hS rfl rfl (by decide) (rv_geq (hS.ev rfl) (hS.ev rfl)) fun a hS => ?_
  refine st_val hS rfl rfl (by decide) (rv_move (hS.ev rfl)) fun a hS => ?_
  rcases ite_some hF with ⟨hc, hF⟩ | ⟨hc, hF⟩
  · have hS := hS.setb (t := 10) rfl hc
    refine st_val hS rfl rfl (by decide) (rv_move (hS.ev rfl)) fun a hS => ?_
    refine st_val hS rfl rfl (by decide) (rv_move (hS.ev rfl)) fun a hS => ?_
    refine st_val hS rfl rfl (by decide) (rv_leq (hS.ev rfl) (hS.ev rfl)) fun a hS => ?_
    refine st_val hS rfl rfl (by decide) (rv_pick_t (hS.ev rfl) (hS.ev rfl)) fun a hS => ?_
    refine st_val hS rfl rfl (by decide) (rv_assign (hS.ev rfl)) fun a hS => ?_
    refine wpList_nil ?_
    exact hJ1 (decide (p0_x ≤ p2_high)) _ _ (hS.sub (sub_cons rfl sub_nil)) (hM.pick [] (by decide) rfl) hF
  · have hS := hS.setb (t := 10) rfl hc
    refine st_skip hS rfl rfl (by decide) fun a hS => ?_
    refine st_skip hS rfl rfl (by decide) fun a hS => ?_
    refine st_skip hS rfl rfl (by decide) fun a hS => ?_
    refine st_val hS rfl rfl (by decide) (rv_pick_f (hS.ev rfl) (hS.ev rfl)) fun a hS => ?_
    refine st_val hS rfl rfl (by decide) (rv_assign (hS.ev rfl)) fun a hS => ?_
    refine wpList_nil ?_
    exact hJ1 false _ _ (hS.sub (sub_cons rfl sub_nil)) (hM.pick [] (by decide) rfl) hF


theorem c_spec_DecodeFixed (F : Nat) (p0_s : List UInt8) (p1_width : Int) {r : Int × Bool} (hF : S_spec_DecodeFixed F p0_s p1_width = some r) (w0 : World) :
    Calls Try.prog 11 [(Value.string (bs p0_s)), (Value.int IntKind.i64 p1_width)].toArray w0 (retPost fun v w' => v = (Value.tuple #[(Value.int IntKind.i64 r.1), (Value.bool r.2)]) ∧ Mem Nob w0 w' []) := by
  have hM : Mem Nob w0 w0 [] := (Mem.nil w0)
  refine enter2 Try.func11 rfl rfl rfl fun Q a hQr hQn hQp hS => ?_
  have hS : Sl 30 [(0, (Value.string (bs p0_s))), (1, (Value.int IntKind.i64 p1_width))] a := hS
  unfold S_spec_DecodeFixed at hF
  refine wp_seq_k fun K1 hK1 => ?_
  refine wp_region_lit ?_
  refine st_val hS rfl rfl (by decide) (rv_assign (hS.ev rfl)) fun a hS => ?_
  refine st_val hS rfl rfl (by decide) (rv_assign (hS.ev rfl)) fun a hS => ?_
  refine wpList_nil ?_
  refine hK1 _ _ ?_
  refine wp_seq_k fun K2 hK2 => ?_
  refine wp_seq_k fun K8 hK8 => ?_
  have hJ1 : ∀ (p10 : Bool) (a : Act) (w : World), Sl 30 [(0, (Value.string (bs p0_s))), (1, (Value.int IntKind.i64 p1_width)), (16, (Value.bool p10))] a → Mem Nob w0 w [] → S_spec_DecodeFixed_j1 F p0_s p1_width p10 = some r → K8 a w := by
    intro p10 a w hS hM hF
    unfold S_spec_DecodeFixed_j1 at hF
    refine hK8 _ _ ?_
    rcases ite_some hF with ⟨hc, hF⟩ | ⟨hc, hF⟩
    · refine cond_t hS rfl hc ?_
      refine wp_seq_k fun K11 hK11 => ?_
      refine wp_region_lit ?_
      refine st_val hS rfl rfl (by decide) (rv_assign (hS.ev rfl)) fun a hS => ?_
      refine st_val hS rfl rfl (by decide) (rv_assign (hS.ev rfl)) fun a hS => ?_
      refine wpList_nil ?_
      refine hK11 _ _ ?_
      refine wp_ret ?_
      cases hF
      exact hQr _ _ (r_2 hS rfl rfl rfl ⟨rfl, hM.pick [] (by decide) rfl⟩)
    · refine cond_f hS rfl hc ?_
      refine wp_skip ?_
      refine hK2 _ _ ?_
      refine wp_seq_k fun K12 hK12 => ?_
      refine wp_region_lit ?_
      refine st_val hS rfl rfl (by decide) (rv_assign (hS.ev rfl)) fun a hS => ?_
      refine wpList_nil ?_
      refine hK12 _ _ ?_
      refine wp_seq_k fun K13 hK13 => ?_
      have hJ2 : ∀ (x29 : Int) (a : Act) (w : World), Sl 30 [(6, (Value.int IntKind.i64 x29))] a → Mem Nob w0 w [] → S_spec_DecodeFixed_j2 F x29 = some r → K13 a w := by
        intro x29 a w hS hM hF
        unfold S_spec_DecodeFixed_j2 at hF
        refine hK13 _ _ ?_
        refine wp_seq_k fun K30 hK30 => ?_
        refine wp_region_lit ?_
        refine st_val hS rfl rfl (by decide) (rv_move (hS.ev rfl)) fun a hS => ?_
        refine st_val hS rfl rfl (by decide) (rv_assign (hS.ev rfl)) fun a hS => ?_
        refine st_val hS rfl rfl (by decide) (rv_assign (hS.ev rfl)) fun a hS => ?_
        refine wpList_nil ?_
        refine hK30 _ _ ?_
        refine wp_ret ?_
        cases hF
        exact hQr _ _ (r_2 hS rfl rfl rfl ⟨rfl, hM.pick [] (by decide) rfl⟩)
      refine wp_seq_k fun K31 hK31 => ?_
      refine wp_region_lit ?_
      refine st_val hS rfl rfl (by decide) (rv_assign (hS.ev rfl)) fun a hS => ?_
      refine wpList_nil ?_
      refine hK31 _ _ ?_
      refine wp_block ?_
      obtain ⟨lb3, hl3, hF3⟩ := bind_some hF
      refine wp_loop_sh (fun s => S_spec_DecodeFixed_l3 F p0_s p1_width s.1 s.2) (fun s a w => Sl 30 [(0, (Value.string (bs p0_s))), (1, (Value.int IntKind.i64 p1_width)), (6, (Value.int IntKind.i64 s.1)), (7, (Value.int IntKind.i64 s.2))] a ∧ Mem Nob w0 w []) hl3 ⟨(hS.sub (sub_cons rfl (sub_cons rfl (sub_cons rfl (sub_cons rfl sub_nil))))), (hM.pick [] (by decide) rfl)⟩ ?_
      rintro K3 ⟨x32, x33⟩ a w res3 ⟨hS, hM⟩ hF hN3 hX3
      have hF : S_spec_DecodeFixed_l3 F p0_s p1_width x32 x33 = some res3 := hF
      have hS : Sl 30 [(0, (Value.string (bs p0_s))), (1, (Value.int IntKind.i64 p1_width)), (6, (Value.int IntKind.i64 x32)), (7, (Value.int IntKind.i64 x33))] a := hS
      have hM : Mem Nob w0 w [] := hM
      unfold S_spec_DecodeFixed_l3 at hF
      refine wp_seq_k fun K40 hK40 => ?_
      refine wp_seq_k fun K42 hK42 => ?_
      refine wp_region_lit ?_
      refine st_val hS rfl rfl (by decide) (rv_move (hS.ev rfl)) fun a hS => ?_
      refine st_val hS rfl rfl (by decide) (rv_move (hS.ev rfl)) fun a hS => ?_
      refine st_val hS rfl rfl (by decide) (rv_lss (hS.ev rfl) (hS.ev rfl)) fun a hS => ?_
      refine wpList_nil ?_
      refine hK42 _ _ ?_
      rcases ite_some hF with ⟨hc, hF⟩ | ⟨hc, hF⟩
      · refine cond_t hS rfl hc ?_
        refine wp_skip ?_
        refine hK40 _ _ ?_
        refine wp_seq_k fun K43 hK43 => ?_
        refine wp_block ?_
        refine wp_region_lit ?_
        refine st_val hS rfl rfl (by decide) (rv_move (hS.ev rfl)) fun a hS => ?_
        refine st_val hS rfl rfl (by decide) (rv_mul (hS.ev rfl) (hS.ev rfl)) fun a hS => ?_
        refine st_val hS rfl rfl (by decide) (rv_move (hS.ev rfl)) fun a hS => ?_
        refine st_val hS rfl rfl (by decide) (rv_move (hS.ev rfl)) fun a hS => ?_
        obtain ⟨x45, hx, hF⟩ := bind_some hF
        obtain ⟨hi0, hi1, hi2⟩ := idxL_some hx
        refine st_val hS rfl rfl (by decide) (rv_index Try.underlying9 (hS.ev rfl) (hS.ev rfl) hi0 hi2) fun a hS => ?_
        refine st_val hS rfl rfl (by decide) (rv_conv Try.underlying5 Try.underlying3 (hS.ev rfl)) fun a hS => ?_
        refine st_val hS rfl rfl (by decide) (rv_add (hS.ev rfl) (hS.ev rfl)) fun a hS => ?_
        refine st_val hS rfl rfl (by decide) (rv_assign (hS.ev rfl)) fun a hS => ?_
        refine wpList_nil ?_
        refine hK43 _ _ ?_
        refine wp_region_lit ?_
        refine st_val hS rfl rfl (by decide) (rv_move (hS.ev rfl)) fun a hS => ?_
        refine st_val hS rfl rfl (by decide) (rv_add (hS.ev rfl) (hS.ev rfl)) fun a hS => ?_
        refine st_val hS rfl rfl (by decide) (rv_assign (hS.ev rfl)) fun a hS => ?_
        refine wpList_nil ?_
        cases hF
        exact hN3 _ _ _ rfl ⟨(hS.sub (sub_cons rfl (sub_cons rfl (sub_cons rfl (sub_cons rfl sub_nil))))), (hM.pick [] (by decide) rfl)⟩
      · refine cond_f hS rfl hc ?_
        refine wp_exit ?_
        cases hF
        exact hJ2 x32 _ _ (hS.sub (sub_cons rfl sub_nil)) (hM.pick [] (by decide) rfl) (by have e := hX3 _ rfl; subst e; exact hF3)
  refine wp_region_lit ?_
  refine st_val hS rfl rfl (by decide) (rv_move (hS.ev rfl)) fun a hS => ?_
  obtain ⟨r46, hr, hF⟩ := bind_some hF
  refine st_wp hS rfl (wp_call hS rfl rfl (by decide) fn_ok_20 rfl (c_spec_l1In F p1_width 1 7 hr _) fun v w a hK hS => ?_)
  obtain ⟨rfl, hN⟩ := hK
  have hM := hM.fra hN.fr
  refine st_val hS rfl rfl (by decide) (rv_not (hS.ev rfl)) fun a hS => ?_
  refine st_val hS rfl rfl (by decide) (rv_move (hS.ev rfl)) fun a hS => ?_
  rcases ite_some hF with ⟨hc, hF⟩ | ⟨hc, hF⟩
  · have hS := hS.setb (t := 11) rfl hc
    refine st_skip hS rfl rfl (by decide) fun a hS => ?_
    refine st_skip hS rfl rfl (by decide) fun a hS => ?_
    refine st_skip hS rfl rfl (by decide) fun a hS => ?_
    refine st_skip hS rfl rfl (by decide) fun a hS => ?_
    refine st_val hS rfl rfl (by decide) (rv_pick_t (hS.ev rfl) (hS.ev rfl)) fun a hS => ?_
    refine wpList_nil ?_
    exact hJ1 true _ _ (hS.sub (sub_cons rfl (sub_cons rfl (sub_cons rfl sub_nil)))) (hM.pick [] (by decide) rfl) hF
  · have hS := hS.setb (t := 11) rfl hc
    refine st_val hS rfl rfl (by decide) (rv_move (hS.ev rfl)) fun a hS => ?_
    refine st_val hS rfl rfl (by decide) (rv_len_str Try.underlying9 (hS.ev rfl)) fun a hS => ?_
    refine st_val hS rfl rfl (by decide) (rv_move (hS.ev rfl)) fun a hS => ?_
    refine st_val hS rfl rfl (by decide) (rv_lss (hS.ev rfl) (hS.ev rfl)) fun a hS => ?_
    refine st_val hS rfl rfl (by decide) (rv_pick_f (hS.ev rfl) (hS.ev rfl)) fun a hS => ?_
    refine wpList_nil ?_
    exact hJ1 (decide ((p0_s.length : Int) < p1_width)) _ _ (hS.sub (sub_cons rfl (sub_cons rfl (sub_cons rfl sub_nil)))) (hM.pick [] (by decide) rfl) hF


theorem c_impl_within (F : Nat) (p0_n : Int) (p1_low : Int) (p2_high : Int) {r : Bool} (hF : S_impl_within F p0_n p1_low p2_high = some r) (w0 : World) :
    Calls Try.prog 21 [(Value.int IntKind.i64 p0_n), (Value.int IntKind.i64 p1_low), (Value.int IntKind.i64 p2_high)].toArray w0 (retPost fun v w' => v = (Value.bool r) ∧ Mem Nob w0 w' []) := by
  have hM : Mem Nob w0 w0 [] := (Mem.nil w0)
  refine enter2 Try.func21 rfl rfl rfl fun Q a hQr hQn hQp hS => ?_
  have hS : Sl 15 [(0, (Value.int IntKind.i64 p0_n)), (1, (Value.int IntKind.i64 p1_low)), (2, (Value.int IntKind.i64 p2_high))] a := hS
  unfold S_impl_within at hF
  refine wp_seq_k fun K1 hK1 => ?_
  refine wp_region_lit ?_
  refine st_val hS rfl rfl (by decide) (rv_assign (hS.ev rfl)) fun a hS => ?_
  refine wpList_nil ?_
  refine hK1 _ _ ?_
  refine wp_seq_k fun K2 hK2 => ?_
  have hJ1 : ∀ (p3 : Bool) (a : Act) (w : World), Sl 15 [(6, (Value.bool p3))] a → Mem Nob w0 w [] → S_impl_within_j1 F p3 = some r → K2 a w := by
    intro p3 a w hS hM hF
    unfold S_impl_within_j1 at hF
    refine hK2 _ _ ?_
    refine wp_ret ?_
    cases hF
    exact hQr _ _ (r_1 hS rfl rfl ⟨rfl, hM.pick [] (by decide) rfl⟩)
  refine wp_region_lit ?_
  refine st_val hS rfl rfl (by decide) (rv_move (hS.ev rfl)) fun a hS => ?_
  refine st_val hS rfl rfl (by decide) (rv_move (hS.ev rfl)) fun a hS => ?_
  refine st_val hS rfl rfl (by decide) (rv_leq (hS.ev rfl) (hS.ev rfl)) fun a hS => ?_
  refine st_val hS rfl rfl (by decide) (rv_move (hS.ev rfl)) fun a hS => ?_
  rcases ite_some hF with ⟨hc, hF⟩ | ⟨hc, hF⟩
  · have hS := hS.setb (t := 10) rfl hc
    refine st_val hS rfl rfl (by decide) (rv_move (hS.ev rfl)) fun a hS => ?_
    refine st_val hS rfl rfl (by decide) (rv_move (hS.ev rfl)) fun a hS => ?_
    refine st_val hS rfl rfl (by decide) (rv_leq (hS.ev rfl) (hS.ev rfl)) fun a hS => ?_
    refine st_val hS rfl rfl (by decide) (rv_pick_t (hS.ev rfl) (hS.ev rfl)) fun a hS => ?_
    refine st_val hS rfl rfl (by decide) (rv_assign (hS.ev rfl)) fun a hS => ?_
    refine wpList_nil ?_
    exact hJ1 (decide (p0_n ≤ p2_high)) _ _ (hS.sub (sub_cons rfl sub_nil)) (hM.pick [] (by decide) rfl) hF
  · have hS := hS.setb (t := 10) rfl hc
    refine st_skip hS rfl rfl (by decide) fun a hS => ?_
    refine st_skip hS rfl rfl (by decide) fun a hS => ?_
    refine st_skip hS rfl rfl (by decide) fun a hS => ?_
    refine st_val hS rfl rfl (by decide) (rv_pick_f (hS.ev rfl) (hS.ev rfl)) fun a hS => ?_
    refine st_val hS rfl rfl (by decide) (rv_assign (hS.ev rfl)) fun a hS => ?_
    refine wpList_nil ?_
    exact hJ1 false _ _ (hS.sub (sub_cons rfl sub_nil)) (hM.pick [] (by decide) rfl) hF


theorem c_impl_DecodeFixed (F : Nat) (p0_s : List UInt8) (p1_width : Int) {r : Int × Bool} (hF : S_impl_DecodeFixed F p0_s p1_width = some r) (w0 : World) :
    Calls Try.prog 12 [(Value.string (bs p0_s)), (Value.int IntKind.i64 p1_width)].toArray w0 (retPost fun v w' => v = (Value.tuple #[(Value.int IntKind.i64 r.1), (Value.bool r.2)]) ∧ Mem Nob w0 w' []) := by
  have hM : Mem Nob w0 w0 [] := (Mem.nil w0)
  refine enter2 Try.func12 rfl rfl rfl fun Q a hQr hQn hQp hS => ?_
  have hS : Sl 30 [(0, (Value.string (bs p0_s))), (1, (Value.int IntKind.i64 p1_width))] a := hS
  unfold S_impl_DecodeFixed at hF
  refine wp_seq_k fun K1 hK1 => ?_
  refine wp_region_lit ?_
  refine st_val hS rfl rfl (by decide) (rv_assign (hS.ev rfl)) fun a hS => ?_
  refine st_val hS rfl rfl (by decide) (rv_assign (hS.ev rfl)) fun a hS => ?_
  refine wpList_nil ?_
  refine hK1 _ _ ?_
  refine wp_seq_k fun K2 hK2 => ?_
  refine wp_seq_k fun K8 hK8 => ?_
  have hJ1 : ∀ (p10 : Bool) (a : Act) (w : World), Sl 30 [(0, (Value.string (bs p0_s))), (1, (Value.int IntKind.i64 p1_width)), (16, (Value.bool p10))] a → Mem Nob w0 w [] → S_impl_DecodeFixed_j1 F p0_s p1_width p10 = some r → K8 a w := by
    intro p10 a w hS hM hF
    unfold S_impl_DecodeFixed_j1 at hF
    refine hK8 _ _ ?_
    rcases ite_some hF with ⟨hc, hF⟩ | ⟨hc, hF⟩
    · refine cond_t hS rfl hc ?_
      refine wp_seq_k fun K11 hK11 => ?_
      refine wp_region_lit ?_
      refine st_val hS rfl rfl (by decide) (rv_assign (hS.ev rfl)) fun a hS => ?_
      refine st_val hS rfl rfl (by decide) (rv_assign (hS.ev rfl)) fun a hS => ?_
      refine wpList_nil ?_
      refine hK11 _ _ ?_
      refine wp_ret ?_
      cases hF
      exact hQr _ _ (r_2 hS rfl rfl rfl ⟨rfl, hM.pick [] (by decide) rfl⟩)
    · refine cond_f hS rfl hc ?_
      refine wp_skip ?_
      refine hK2 _ _ ?_
      refine wp_seq_k fun K12 hK12 => ?_
      refine wp_region_lit ?_
      refine st_val hS rfl rfl (by decide) (rv_assign (hS.ev rfl)) fun a hS => ?_
      refine wpList_nil ?_
      refine hK12 _ _ ?_
      refine wp_seq_k fun K13 hK13 => ?_
      have hJ2 : ∀ (x31 : Int) (a : Act) (w : World), Sl 30 [(6, (Value.int IntKind.i64 x31))] a → Mem Nob w0 w [] → S_impl_DecodeFixed_j2 F x31 = some r → K13 a w := by
        intro x31 a w hS hM hF
        unfold S_impl_DecodeFixed_j2 at hF
        refine hK13 _ _ ?_
        refine wp_seq_k fun K32 hK32 => ?_
        refine wp_region_lit ?_
        refine st_val hS rfl rfl (by decide) (rv_move (hS.ev rfl)) fun a hS => ?_
        refine st_val hS rfl rfl (by decide) (rv_assign (hS.ev rfl)) fun a hS => ?_
        refine st_val hS rfl rfl (by decide) (rv_assign (hS.ev rfl)) fun a hS => ?_
        refine wpList_nil ?_
        refine hK32 _ _ ?_
        refine wp_ret ?_
        cases hF
        exact hQr _ _ (r_2 hS rfl rfl rfl ⟨rfl, hM.pick [] (by decide) rfl⟩)
      refine wp_seq_k fun K33 hK33 => ?_
      refine wp_region_lit ?_
      refine st_val hS rfl rfl (by decide) (rv_move (hS.ev rfl)) fun a hS => ?_
      refine st_val hS rfl rfl (by decide) (rv_move (hS.ev rfl)) fun a hS => ?_
      refine wpList_nil ?_
      refine hK33 _ _ ?_
      refine wp_block ?_
      obtain ⟨lb3, hl3, hF3⟩ := bind_some hF
      refine wp_loop_sh (fun s => S_impl_DecodeFixed_l3 F p0_s p1_width s.1 s.2) (fun s a w => Sl 30 [(0, (Value.string (bs p0_s))), (6, (Value.int IntKind.i64 s.1)), (17, (Value.int IntKind.i64 p1_width)), (18, (Value.int IntKind.i64 s.2))] a ∧ Mem Nob w0 w []) hl3 ⟨(hS.sub (sub_cons rfl (sub_cons rfl (sub_cons rfl (sub_cons rfl sub_nil))))), (hM.pick [] (by decide) rfl)⟩ ?_
      rintro K3 ⟨x34, x35⟩ a w res3 ⟨hS, hM⟩ hF hN3 hX3
      have hF : S_impl_DecodeFixed_l3 F p0_s p1_width x34 x35 = some res3 := hF
      have hS : Sl 30 [(0, (Value.string (bs p0_s))), (6, (Value.int IntKind.i64 x34)), (17, (Value.int IntKind.i64 p1_width)), (18, (Value.int IntKind.i64 x35))] a := hS
      have hM : Mem Nob w0 w [] := hM
      unfold S_impl_DecodeFixed_l3 at hF
      refine wp_seq_k fun K43 hK43 => ?_
      refine wp_region_lit ?_
      refine st_val hS rfl rfl (by decide) (rv_lss (hS.ev rfl) (hS.ev rfl)) fun a hS => ?_
      refine wpList_nil ?_
      refine hK43 _ _ ?_
      refine wp_seq_k fun K44 hK44 => ?_
      rcases ite_some hF with ⟨hc, hF⟩ | ⟨hc, hF⟩
      · refine cond_t hS rfl hc ?_
        refine wp_skip ?_
        refine hK44 _ _ ?_
        refine wp_seq_k fun K45 hK45 => ?_
        refine wp_block ?_
        refine wp_seq_k fun K48 hK48 => ?_
        refine wp_region_lit ?_
        refine st_val hS rfl rfl (by decide) (rv_move (hS.ev rfl)) fun a hS => ?_
        refine st_val hS rfl rfl (by decide) (rv_assign (hS.ev rfl)) fun a hS => ?_
        refine wpList_nil ?_
        refine hK48 _ _ ?_
        refine wp_region_lit ?_
        refine st_val hS rfl rfl (by decide) (rv_move (hS.ev rfl)) fun a hS => ?_
        refine st_val hS rfl rfl (by decide) (rv_shl (hS.ev rfl) (hS.ev rfl) (by decide)) fun a hS => ?_
        refine st_val hS rfl rfl (by decide) (rv_move (hS.ev rfl)) fun a hS => ?_
        refine st_val hS rfl rfl (by decide) (rv_move (hS.ev rfl)) fun a hS => ?_
        obtain ⟨x49, hx, hF⟩ := bind_some hF
        obtain ⟨hi0, hi1, hi2⟩ := idxL_some hx
        refine st_val hS rfl rfl (by decide) (rv_index Try.underlying9 (hS.ev rfl) (hS.ev rfl) hi0 hi2) fun a hS => ?_
        refine st_val hS rfl rfl (by decide) (rv_conv Try.underlying5 Try.underlying3 (hS.ev rfl)) fun a hS => ?_
        refine st_val hS rfl rfl (by decide) (rv_or (hS.ev rfl) (hS.ev rfl)) fun a hS => ?_
        refine st_val hS rfl rfl (by decide) (rv_assign (hS.ev rfl)) fun a hS => ?_
        refine wpList_nil ?_
        refine hK45 _ _ ?_
        refine wp_region_lit ?_
        refine st_val hS rfl rfl (by decide) (rv_add (hS.ev rfl) (hS.ev rfl)) fun a hS => ?_
        refine st_val hS rfl rfl (by decide) (rv_move (hS.ev rfl)) fun a hS => ?_
        refine wpList_nil ?_
        cases hF
        exact hN3 _ _ _ rfl ⟨(hS.sub (sub_cons rfl (sub_cons rfl (sub_cons rfl (sub_cons rfl sub_nil))))), (hM.pick [] (by decide) rfl)⟩
      · refine cond_f hS rfl hc ?_
        refine wp_exit ?_
        cases hF
        exact hJ2 x34 _ _ (hS.sub (sub_cons rfl sub_nil)) (hM.pick [] (by decide) rfl) (by have e := hX3 _ rfl; subst e; exact hF3)
  refine wp_region_lit ?_
  refine st_val hS rfl rfl (by decide) (rv_move (hS.ev rfl)) fun a hS => ?_
  obtain ⟨r50, hr, hF⟩ := bind_some hF
  refine st_wp hS rfl (wp_call hS rfl rfl (by decide) fn_ok_21 rfl (c_impl_within F p1_width 1 7 hr _) fun v w a hK hS => ?_)
  obtain ⟨rfl, hN⟩ := hK
  have hM := hM.fra hN.fr
  refine st_val hS rfl rfl (by decide) (rv_not (hS.ev rfl)) fun a hS => ?_
  refine st_val hS rfl rfl (by decide) (rv_move (hS.ev rfl)) fun a hS => ?_
  rcases ite_some hF with ⟨hc, hF⟩ | ⟨hc, hF⟩
  · have hS := hS.setb (t := 11) rfl hc
    refine st_skip hS rfl rfl (by decide) fun a hS => ?_
    refine st_skip hS rfl rfl (by decide) fun a hS => ?_
    refine st_skip hS rfl rfl (by decide) fun a hS => ?_
    refine st_skip hS rfl rfl (by decide) fun a hS => ?_
    refine st_val hS rfl rfl (by decide) (rv_pick_t (hS.ev rfl) (hS.ev rfl)) fun a hS => ?_
    refine wpList_nil ?_
    exact hJ1 true _ _ (hS.sub (sub_cons rfl (sub_cons rfl (sub_cons rfl sub_nil)))) (hM.pick [] (by decide) rfl) hF
  · have hS := hS.setb (t := 11) rfl hc
    refine st_val hS rfl rfl (by decide) (rv_move (hS.ev rfl)) fun a hS => ?_
    refine st_val hS rfl rfl (by decide) (rv_len_str Try.underlying9 (hS.ev rfl)) fun a hS => ?_
    refine st_val hS rfl rfl (by decide) (rv_move (hS.ev rfl)) fun a hS => ?_
    refine st_val hS rfl rfl (by decide) (rv_lss (hS.ev rfl) (hS.ev rfl)) fun a hS => ?_
    refine st_val hS rfl rfl (by decide) (rv_pick_f (hS.ev rfl) (hS.ev rfl)) fun a hS => ?_
    refine wpList_nil ?_
    exact hJ1 (decide ((p0_s.length : Int) < p1_width)) _ _ (hS.sub (sub_cons rfl (sub_cons rfl (sub_cons rfl sub_nil)))) (hM.pick [] (by decide) rfl) hF


theorem c_laws_FnExactDecodeFixed (F : Nat) (p0_aS : List UInt8) (p1_aWidth : Int) {r : Bool} (hF : S_laws_FnExactDecodeFixed F p0_aS p1_aWidth = some r) (w0 : World) :
    Calls Try.prog 5 [(Value.string (bs p0_aS)), (Value.int IntKind.i64 p1_aWidth)].toArray w0 (retPost fun v w' => v = (Value.bool r) ∧ Mem Nob w0 w' []) := by
  have hM : Mem Nob w0 w0 [] := (Mem.nil w0)
  refine enter2 Try.func5 rfl rfl rfl fun Q a hQr hQn hQp hS => ?_
  have hS : Sl 32 [(0, (Value.string (bs p0_aS))), (1, (Value.int IntKind.i64 p1_aWidth))] a := hS
  unfold S_laws_FnExactDecodeFixed at hF
  refine wp_seq_k fun K1 hK1 => ?_
  refine wp_region_lit ?_
  refine st_val hS rfl rfl (by decide) (rv_assign (hS.ev rfl)) fun a hS => ?_
  refine wpList_nil ?_
  refine hK1 _ _ ?_
  refine wp_seq_k fun K2 hK2 => ?_
  refine wp_seq_k fun K5 hK5 => ?_
  refine wp_region_lit ?_
  refine st_val hS rfl rfl (by decide) (rv_move (hS.ev rfl)) fun a hS => ?_
  refine st_val hS rfl rfl (by decide) (rv_len_str Try.underlying9 (hS.ev rfl)) fun a hS => ?_
  refine st_val hS rfl rfl (by decide) (rv_gtr (hS.ev rfl) (hS.ev rfl)) fun a hS => ?_
  refine wpList_nil ?_
  refine hK5 _ _ ?_
  rcases ite_some hF with ⟨hc, hF⟩ | ⟨hc, hF⟩
  · refine cond_t hS rfl hc ?_
    refine wp_seq_k fun K6 hK6 => ?_
    refine wp_region_lit ?_
    refine st_val hS rfl rfl (by decide) (rv_assign (hS.ev rfl)) fun a hS => ?_
    refine wpList_nil ?_
    refine hK6 _ _ ?_
    refine wp_ret ?_
    cases hF
    exact hQr _ _ (r_1 hS rfl rfl ⟨rfl, hM.pick [] (by decide) rfl⟩)
  · refine cond_f hS rfl hc ?_
    refine wp_skip ?_
    refine hK2 _ _ ?_
    refine wp_seq_k fun K7 hK7 => ?_
    refine wp_region_lit ?_
    refine st_val hS rfl rfl (by decide) (rv_move (hS.ev rfl)) fun a hS => ?_
    refine st_val hS rfl rfl (by decide) (rv_move (hS.ev rfl)) fun a hS => ?_
    obtain ⟨r9, hr, hF⟩ := bind_some hF
    refine st_wp hS rfl (wp_call hS rfl rfl (by decide) fn_ok_11 rfl (c_spec_DecodeFixed F p0_aS p1_aWidth hr _) fun v w a hK hS => ?_)
    obtain ⟨rfl, hN⟩ := hK
    have hM := hM.fra hN.fr
    refine st_val hS rfl rfl (by decide) (rv_move (hS.ev rfl)) fun a hS => ?_
    refine st_val hS rfl rfl (by decide) (rv_extract (hS.ev rfl) rfl) fun a hS => ?_
    refine st_val hS rfl rfl (by decide) (rv_extract (hS.ev rfl) rfl) fun a hS => ?_
    refine st_val hS rfl rfl (by decide) (rv_assign (hS.ev rfl)) fun a hS => ?_
    refine st_val hS rfl rfl (by decide) (rv_assign (hS.ev rfl)) fun a hS => ?_
    refine wpList_nil ?_
    refine hK7 _ _ ?_
    refine wp_seq_k fun K10 hK10 => ?_
    refine wp_region_lit ?_
    refine st_val hS rfl rfl (by decide) (rv_move (hS.ev rfl)) fun a hS => ?_
    refine st_val hS rfl rfl (by decide) (rv_move (hS.ev rfl)) fun a hS => ?_
    obtain ⟨r12, hr, hF⟩ := bind_some hF
    refine st_wp hS rfl (wp_call hS rfl rfl (by decide) fn_ok_12 rfl (c_impl_DecodeFixed F p0_aS p1_aWidth hr _) fun v w a hK hS => ?_)
    obtain ⟨rfl, hN⟩ := hK
    have hM := hM.fra hN.fr
    refine st_val hS rfl rfl (by decide) (rv_move (hS.ev rfl)) fun a hS => ?_
    refine st_val hS rfl rfl (by decide) (rv_extract (hS.ev rfl) rfl) fun a hS => ?_
    refine st_val hS rfl rfl (by decide) (rv_extract (hS.ev rfl) rfl) fun a hS => ?_
    refine st_val hS rfl rfl (by decide) (rv_assign (hS.ev rfl)) fun a hS => ?_
    refine st_val hS rfl rfl (by decide) (rv_assign (hS.ev rfl)) fun a hS => ?_
    refine wpList_nil ?_
    refine hK10 _ _ ?_
    refine wp_seq_k fun K13 hK13 => ?_
    refine wp_seq_k fun K17 hK17 => ?_
    have hJ1 : ∀ (p18 : Bool) (a : Act) (w : World), Sl 32 [(31, (Value.bool p18))] a → Mem Nob w0 w [] → S_laws_FnExactDecodeFixed_j1 F p18 = some r → K17 a w := by
      intro p18 a w hS hM hF
      unfold S_laws_FnExactDecodeFixed_j1 at hF
      refine hK17 _ _ ?_
      rcases ite_some hF with ⟨hc, hF⟩ | ⟨hc, hF⟩
      · refine cond_t hS rfl hc ?_
        refine wp_seq_k fun K19 hK19 => ?_
        refine wp_region_lit ?_
        refine st_val hS rfl rfl (by decide) (rv_assign (hS.ev rfl)) fun a hS => ?_
        refine wpList_nil ?_
        refine hK19 _ _ ?_
        refine wp_ret ?_
        cases hF
        exact hQr _ _ (r_1 hS rfl rfl ⟨rfl, hM.pick [] (by decide) rfl⟩)
      · refine cond_f hS rfl hc ?_
        refine wp_skip ?_
        refine hK13 _ _ ?_
        refine wp_seq_k fun K20 hK20 => ?_
        refine wp_region_lit ?_
        refine st_val hS rfl rfl (by decide) (rv_assign (hS.ev rfl)) fun a hS => ?_
        refine wpList_nil ?_
        refine hK20 _ _ ?_
        refine wp_ret ?_
        cases hF
        exact hQr _ _ (r_1 hS rfl rfl ⟨rfl, hM.pick [] (by decide) rfl⟩)
    refine wp_region_lit ?_
    refine st_val hS rfl rfl (by decide) (rv_move (hS.ev rfl)) fun a hS => ?_
    refine st_val hS rfl rfl (by decide) (rv_move (hS.ev rfl)) fun a hS => ?_
    refine st_val hS rfl rfl (by decide) (rv_neq (hS.ev rfl) (hS.ev rfl)) fun a hS => ?_
    refine st_val hS rfl rfl (by decide) (rv_move (hS.ev rfl)) fun a hS => ?_
    rcases ite_some hF with ⟨hc, hF⟩ | ⟨hc, hF⟩
    · have hS := hS.setb (t := 27) rfl hc
      refine st_skip hS rfl rfl (by decide) fun a hS => ?_
      refine st_skip hS rfl rfl (by decide) fun a hS => ?_
      refine st_skip hS rfl rfl (by decide) fun a hS => ?_
      refine st_val hS rfl rfl (by decide) (rv_pick_t (hS.ev rfl) (hS.ev rfl)) fun a hS => ?_
      refine wpList_nil ?_
      exact hJ1 true _ _ (hS.sub (sub_cons rfl sub_nil)) (hM.pick [] (by decide) rfl) hF
    · have hS := hS.setb (t := 27) rfl hc
      refine st_val hS rfl rfl (by decide) (rv_move (hS.ev rfl)) fun a hS => ?_
      refine st_val hS rfl rfl (by decide) (rv_move (hS.ev rfl)) fun a hS => ?_
      refine st_val hS rfl rfl (by decide) (rv_bneq Try.underlying4 (hS.ev rfl) (hS.ev rfl)) fun a hS => ?_
      refine st_val hS rfl rfl (by decide) (rv_pick_f (hS.ev rfl) (hS.ev rfl)) fun a hS => ?_
      refine wpList_nil ?_
      exact hJ1 (r12.2 != r9.2) _ _ (hS.sub (sub_cons rfl sub_nil)) (hM.pick [] (by decide) rfl) hF


theorem c_spec_EncodeVarint (F : Nat) (p0_n : Int) {r : (List UInt8)} (hF : S_spec_EncodeVarint F p0_n = some r) (w0 : World) :
    Calls Try.prog 13 [(Value.int IntKind.i64 p0_n)].toArray w0 (retPost fun v w' => v = (Value.string (bs r)) ∧ Mem Nob w0 w' []) := by
  have hM : Mem Nob w0 w0 [] := (Mem.nil w0)
  refine enter2 Try.func13 rfl rfl rfl fun Q a hQr hQn hQp hS => ?_
  have hS : Sl 25 [(0, (Value.int IntKind.i64 p0_n))] a := hS
  unfold S_spec_EncodeVarint at hF
  refine wp_seq_k fun K1 hK1 => ?_
  refine wp_region_lit ?_
  refine st_val hS rfl rfl (by decide) (rv_assign (hS.ev rfl)) fun a hS => ?_
  refine wpList_nil ?_
  refine hK1 _ _ ?_
  refine wp_seq_k fun K2 hK2 => ?_
  refine wp_seq_k fun K7 hK7 => ?_
  refine wp_region_lit ?_
  refine st_val hS rfl rfl (by decide) (rv_move (hS.ev rfl)) fun a hS => ?_
  obtain ⟨r9, hr, hF⟩ := bind_some hF
  refine st_wp hS rfl (wp_call hS rfl rfl (by decide) fn_ok_20 rfl (c_spec_l1In F p0_n 0 562949953421311 hr _) fun v w a hK hS => ?_)
  obtain ⟨rfl, hN⟩ := hK
  have hM := hM.fra hN.fr
  refine st_val hS rfl rfl (by decide) (rv_not (hS.ev rfl)) fun a hS => ?_
  refine wpList_nil ?_
  refine hK7 _ _ ?_
  rcases ite_some hF with ⟨hc, hF⟩ | ⟨hc, hF⟩
  · refine cond_t hS rfl hc ?_
    refine wp_seq_k fun K10 hK10 => ?_
    refine wp_region_lit ?_
    refine st_val hS rfl rfl (by decide) (rv_assign (hS.ev rfl)) fun a hS => ?_
    refine wpList_nil ?_
    refine hK10 _ _ ?_
    refine wp_ret ?_
    cases hF
    exact hQr _ _ (r_1 hS rfl rfl ⟨rfl, hM.pick [] (by decide) rfl⟩)
  · refine cond_f hS rfl hc ?_
    refine wp_skip ?_
    refine hK2 _ _ ?_
    refine wp_seq_k fun K11 hK11 => ?_
    refine wp_region_lit ?_
    obtain ⟨v13, w, hr, hM⟩ := Mem.litE (f := (Value.int IntKind.u8)) (dst := some 7) (ty := _) (pos := _) (af := _) (gd := _) (ps := []) ([] : List (Int)) u8_one hM hS Try.underlying33 ty_el_5 rfl rfl rfl rfl
    refine st_val hS rfl rfl (by decide) hr fun a hS => ?_
    refine st_val hS rfl rfl (by decide) (rv_assign (hS.ev rfl)) fun a hS => ?_
    refine wpList_nil ?_
    refine hK11 _ _ ?_
    refine wp_seq_k fun K14 hK14 => ?_
    have hJ1 : ∀ (x34 : Int) (l36 : List Int) (v35 : Value) (a : Act) (w : World), Sl 25 [(0, (Value.int IntKind.i64 x34)), (3, v35)] a → Mem Nob w0 w [(true, ow 5 v35 (List.map (Value.int IntKind.u8) l36))] → S_spec_EncodeVarint_j1 F x34 l36 = some r → K14 a w := by
      intro x34 l36 v35 a w hS hM hF
      unfold S_spec_EncodeVarint_j1 at hF
      refine hK14 _ _ ?_
      refine wp_seq_k fun K37 hK37 => ?_
      refine wp_region_lit ?_
      refine st_val hS rfl rfl (by decide) (rv_move (hS.ev rfl)) fun a hS => ?_
      refine st_val hS rfl rfl (by decide) (rv_move (hS.ev rfl)) fun a hS => ?_
      refine st_val hS rfl rfl (by decide) (rv_conv Try.underlying3 Try.underlying5 (hS.ev rfl)) fun a hS => ?_
      obtain ⟨v40, w, hr, hM⟩ := Mem.litE (f := (Value.int IntKind.u8)) (dst := some 22) (ty := _) (pos := _) (af := _) (gd := _) (ps := [(0, .tmp 21)]) ([(IntKind.u8.wrap x34)] : List (Int)) u8_one hM hS Try.underlying33 ty_el_5 rfl rfl rfl rfl
      refine st_val hS rfl rfl (by decide) hr fun a hS => ?_
      obtain ⟨_, hx, hF⟩ := bind_some hF
      have hM := hM.pick [1, 0] (by decide) rfl
      obtain ⟨v41, w, hr, hM⟩ := Mem.appE (f := (Value.int IntKind.u8)) (S := _) (R := [(true, ow 5 v40 (List.map (Value.int IntKind.u8) ([(IntKind.u8.wrap x34)] : List (Int))))]) (ρ := a.eval) (dst := some 23) (ty := _) (pos := _) (af := _) (gd := _) (x := .tmp 19) (y := .tmp 22) u8_one hM Try.underlying33 ty_el_5 rfl (by decide) (hS.ev rfl) (hS.ev rfl) (rd_of_ow (hM.get 1 rfl)) (catO_some hx)
      refine st_val hS rfl rfl (by decide) hr fun a hS => ?_
      refine st_val hS rfl rfl (by decide) (rv_bstr Try.underlying33 Try.underlying5 Try.underlying9 (hS.ev rfl) (rd_of_ow (hM.get 0 rfl))) fun a hS => ?_
      refine st_val hS rfl rfl (by decide) (rv_assign (hS.ev rfl)) fun a hS => ?_
      refine wpList_nil ?_
      refine hK37 _ _ ?_
      refine wp_ret ?_
      cases hF
      exact hQr _ _ (r_1 hS rfl rfl ⟨rfl, hM.pick [] (by decide) rfl⟩)
    refine wp_block ?_
    obtain ⟨lb2, hl2, hF2⟩ := bind_some hF
    refine wp_loop_sh (fun s => S_spec_EncodeVarint_l2 F s.1 s.2) (fun s a w => ∃ (v43 : Value), Sl 25 [(0, (Value.int IntKind.i64 s.1)), (3, v43)] a ∧ Mem Nob w0 w [(true, ow 5 v43 (List.map (Value.int IntKind.u8) s.2))]) hl2 ⟨v13, (hS.sub (sub_cons rfl (sub_cons rfl sub_nil))), (hM.pick [0] (by decide) rfl)⟩ ?_
    rintro K2 ⟨x42, l44⟩ a w res2 ⟨v43, hS, hM⟩ hF hN2 hX2
    have hF : S_spec_EncodeVarint_l2 F x42 l44 = some res2 := hF
    have hS : Sl 25 [(0, (Value.int IntKind.i64 x42)), (3, v43)] a := hS
    have hM : Mem Nob w0 w [(true, ow 5 v43 (List.map (Value.int IntKind.u8) l44))] := hM
    unfold S_spec_EncodeVarint_l2 at hF
    refine wp_seq_k fun K53 hK53 => ?_
    refine wp_seq_k fun K55 hK55 => ?_
    refine wp_region_lit ?_
    refine st_val hS rfl rfl (by decide) (rv_move (hS.ev rfl)) fun a hS => ?_
    refine st_val hS rfl rfl (by decide) (rv_geq (hS.ev rfl) (hS.ev rfl)) fun a hS => ?_
    refine wpList_nil ?_
    refine hK55 _ _ ?_
    rcases ite_some hF with ⟨hc, hF⟩ | ⟨hc, hF⟩
    · refine cond_t hS rfl hc ?_
      refine wp_skip ?_
      refine hK53 _ _ ?_
      refine wp_block ?_
      refine wp_seq_k fun K56 hK56 => ?_
      refine wp_region_lit ?_
      refine st_val hS rfl rfl (by decide) (rv_move (hS.ev rfl)) fun a hS => ?_
      refine st_val hS rfl rfl (by decide) (rv_move (hS.ev rfl)) fun a hS => ?_
      refine st_val hS rfl rfl (by decide) (rv_rem (hS.ev rfl) (hS.ev rfl) (by decide)) fun a hS => ?_
      refine st_val hS rfl rfl (by decide) (rv_add (hS.ev rfl) (hS.ev rfl)) fun a hS => ?_
      refine st_val hS rfl rfl (by decide) (rv_conv Try.underlying3 Try.underlying5 (hS.ev rfl)) fun a hS => ?_
      obtain ⟨v59, w, hr, hM⟩ := Mem.litE (f := (Value.int IntKind.u8)) (dst := some 15) (ty := _) (pos := _) (af := _) (gd := _) (ps := [(0, .tmp 14)]) ([(IntKind.u8.wrap (IntKind.i64.wrap (128 + (x42.tmod 128))))] : List (Int)) u8_one hM hS Try.underlying33 ty_el_5 rfl rfl rfl rfl
      refine st_val hS rfl rfl (by decide) hr fun a hS => ?_
      obtain ⟨_, hx, hF⟩ := bind_some hF
      have hM := hM.pick [1, 0] (by decide) rfl
      obtain ⟨v60, w, hr, hM⟩ := Mem.appE (f := (Value.int IntKind.u8)) (S := _) (R := [(true, ow 5 v59 (List.map (Value.int IntKind.u8) ([(IntKind.u8.wrap (IntKind.i64.wrap (128 + (x42.tmod 128))))] : List (Int))))]) (ρ := a.eval) (dst := some 16) (ty := _) (pos := _) (af := _) (gd := _) (x := .tmp 10) (y := .tmp 15) u8_one hM Try.underlying33 ty_el_5 rfl (by decide) (hS.ev rfl) (hS.ev rfl) (rd_of_ow (hM.get 1 rfl)) (catO_some hx)
      refine st_val hS rfl rfl (by decide) hr fun a hS => ?_
      refine st_val hS rfl rfl (by decide) (rv_assign (hS.ev rfl)) fun a hS => ?_
      refine wpList_nil ?_
      refine hK56 _ _ ?_
      refine wp_region_lit ?_
      refine st_val hS rfl rfl (by decide) (rv_move (hS.ev rfl)) fun a hS => ?_
      refine st_val hS rfl rfl (by decide) (rv_quo (hS.ev rfl) (hS.ev rfl) (by decide)) fun a hS => ?_
      refine st_val hS rfl rfl (by decide) (rv_assign (hS.ev rfl)) fun a hS => ?_
      refine wpList_nil ?_
      cases hF
      exact hN2 _ _ _ rfl ⟨v60, (hS.sub (sub_cons rfl (sub_cons rfl sub_nil))), (hM.pick [0] (by decide) rfl)⟩
    · refine cond_f hS rfl hc ?_
      refine wp_exit ?_
      cases hF
      exact hJ1 x42 l44 v43 _ _ (hS.sub (sub_cons rfl (sub_cons rfl sub_nil))) (hM.pick [0] (by decide) rfl) (by have e := hX2 _ rfl; subst e; exact hF2)


theorem c_impl_EncodeVarint (F : Nat) (p0_n : Int) {r : (List UInt8)} (hF : S_impl_EncodeVarint F p0_n = some r) (w0 : World) :
    Calls Try.prog 14 [(Value.int IntKind.i64 p0_n)].toArray w0 (retPost fun v w' => v = (Value.string (bs r)) ∧ Mem Nob w0 w' []) := by
  have hM : Mem Nob w0 w0 [] := (Mem.nil w0)
  refine enter2 Try.func14 rfl rfl rfl fun Q a hQr hQn hQp hS => ?_
  have hS : Sl 25 [(0, (Value.int IntKind.i64 p0_n))] a := hS
  unfold S_impl_EncodeVarint at hF
  refine wp_seq_k fun K1 hK1 => ?_
  refine wp_region_lit ?_
  refine st_val hS rfl rfl (by decide) (rv_assign (hS.ev rfl)) fun a hS => ?_
  refine wpList_nil ?_
  refine hK1 _ _ ?_
  refine wp_seq_k fun K2 hK2 => ?_
  refine wp_seq_k fun K7 hK7 => ?_
  refine wp_region_lit ?_
  refine st_val hS rfl rfl (by decide) (rv_move (hS.ev rfl)) fun a hS => ?_
  obtain ⟨r9, hr, hF⟩ := bind_some hF
  refine st_wp hS rfl (wp_call hS rfl rfl (by decide) fn_ok_21 rfl (c_impl_within F p0_n 0 562949953421311 hr _) fun v w a hK hS => ?_)
  obtain ⟨rfl, hN⟩ := hK
  have hM := hM.fra hN.fr
  refine st_val hS rfl rfl (by decide) (rv_not (hS.ev rfl)) fun a hS => ?_
  refine wpList_nil ?_
  refine hK7 _ _ ?_
  rcases ite_some hF with ⟨hc, hF⟩ | ⟨hc, hF⟩
  · refine cond_t hS rfl hc ?_
    refine wp_seq_k fun K10 hK10 => ?_
    refine wp_region_lit ?_
    refine st_val hS rfl rfl (by decide) (rv_assign (hS.ev rfl)) fun a hS => ?_
    refine wpList_nil ?_
    refine hK10 _ _ ?_
    refine wp_ret ?_
    cases hF
    exact hQr _ _ (r_1 hS rfl rfl ⟨rfl, hM.pick [] (by decide) rfl⟩)
  · refine cond_f hS rfl hc ?_
    refine wp_skip ?_
    refine hK2 _ _ ?_
    refine wp_seq_k fun K11 hK11 => ?_
    refine wp_region_lit ?_
    obtain ⟨v13, w, hr, hM⟩ := Mem.litE (f := (Value.int IntKind.u8)) (dst := some 7) (ty := _) (pos := _) (af := _) (gd := _) (ps := []) ([] : List (Int)) u8_one hM hS Try.underlying33 ty_el_5 rfl rfl rfl rfl
    refine st_val hS rfl rfl (by decide) hr fun a hS => ?_
    refine st_val hS rfl rfl (by decide) (rv_assign (hS.ev rfl)) fun a hS => ?_
    refine wpList_nil ?_
    refine hK11 _ _ ?_
    refine wp_seq_k fun K14 hK14 => ?_
    have hJ1 : ∀ (x34 : Int) (l36 : List Int) (v35 : Value) (a : Act) (w : World), Sl 25 [(0, (Value.int IntKind.i64 x34)), (3, v35)] a → Mem Nob w0 w [(true, ow 5 v35 (List.map (Value.int IntKind.u8) l36))] → S_impl_EncodeVarint_j1 F x34 l36 = some r → K14 a w := by
      intro x34 l36 v35 a w hS hM hF
      unfold S_impl_EncodeVarint_j1 at hF
      refine hK14 _ _ ?_
      refine wp_seq_k fun K37 hK37 => ?_
      refine wp_region_lit ?_
      refine st_val hS rfl rfl (by decide) (rv_move (hS.ev rfl)) fun a hS => ?_
      refine st_val hS rfl rfl (by decide) (rv_move (hS.ev rfl)) fun a hS => ?_
      refine st_val hS rfl rfl (by decide) (rv_conv Try.underlying3 Try.underlying5 (hS.ev rfl)) fun a hS => ?_
      obtain ⟨v40, w, hr, hM⟩ := Mem.litE (f := (Value.int IntKind.u8)) (dst := some 22) (ty := _) (pos := _) (af := _) (gd := _) (ps := [(0, .tmp 21)]) ([(IntKind.u8.wrap x34)] : List (Int)) u8_one hM hS Try.underlying33 ty_el_5 rfl rfl rfl rfl
      refine st_val hS rfl rfl (by decide) hr fun a hS => ?_
      obtain ⟨_, hx, hF⟩ := bind_some hF
      have hM := hM.pick [1, 0] (by decide) rfl
      obtain ⟨v41, w, hr, hM⟩ := Mem.appE (f := (Value.int IntKind.u8)) (S := _) (R := [(true, ow 5 v40 (List.map (Value.int IntKind.u8) ([(IntKind.u8.wrap x34)] : List (Int))))]) (ρ := a.eval) (dst := some 23) (ty := _) (pos := _) (af := _) (gd := _) (x := .tmp 19) (y := .tmp 22) u8_one hM Try.underlying33 ty_el_5 rfl (by decide) (hS.ev rfl) (hS.ev rfl) (rd_of_ow (hM.get 1 rfl)) (catO_some hx)
      refine st_val hS rfl rfl (by decide) hr fun a hS => ?_
      refine st_val hS rfl rfl (by decide) (rv_bstr Try.underlying33 Try.underlying5 Try.underlying9 (hS.ev rfl) (rd_of_ow (hM.get 0 rfl))) fun a hS => ?_
      refine st_val hS rfl rfl (by decide) (rv_assign (hS.ev rfl)) fun a hS => ?_
      refine wpList_nil ?_
      refine hK37 _ _ ?_
      refine wp_ret ?_
      cases hF
      exact hQr _ _ (r_1 hS rfl rfl ⟨rfl, hM.pick [] (by decide) rfl⟩)
    refine wp_block ?_
    obtain ⟨lb2, hl2, hF2⟩ := bind_some hF
    refine wp_loop_sh (fun s => S_impl_EncodeVarint_l2 F s.1 s.2) (fun s a w => ∃ (v43 : Value), Sl 25 [(0, (Value.int IntKind.i64 s.1)), (3, v43)] a ∧ Mem Nob w0 w [(true, ow 5 v43 (List.map (Value.int IntKind.u8) s.2))]) hl2 ⟨v13, (hS.sub (sub_cons rfl (sub_cons rfl sub_nil))), (hM.pick [0] (by decide) rfl)⟩ ?_
    rintro K2 ⟨x42, l44⟩ a w res2 ⟨v43, hS, hM⟩ hF hN2 hX2
    have hF : S_impl_EncodeVarint_l2 F x42 l44 = some res2 := hF
    have hS : Sl 25 [(0, (Value.int IntKind.i64 x42)), (3, v43)] a := hS
    have hM : Mem Nob w0 w [(true, ow 5 v43 (List.map (Value.int IntKind.u8) l44))] := hM
    unfold S_impl_EncodeVarint_l2 at hF
    refine wp_seq_k fun K53 hK53 => ?_
    refine wp_seq_k fun K55 hK55 => ?_
    refine wp_region_lit ?_
    refine st_val hS rfl rfl (by decide) (rv_move (hS.ev rfl)) fun a hS => ?_
    refine st_val hS rfl rfl (by decide) (rv_geq (hS.ev rfl) (hS.ev rfl)) fun a hS => ?_
    refine wpList_nil ?_
    refine hK55 _ _ ?_
    rcases ite_some hF with ⟨hc, hF⟩ | ⟨hc, hF⟩
    · refine cond_t hS rfl hc ?_
      refine wp_skip ?_
      refine hK53 _ _ ?_
      refine wp_block ?_
      refine wp_seq_k fun K56 hK56 => ?_
      refine wp_region_lit ?_
      refine st_val hS rfl rfl (by decide) (rv_move (hS.ev rfl)) fun a hS => ?_
      refine st_val hS rfl rfl (by decide) (rv_move (hS.ev rfl)) fun a hS => ?_
      refine st_val hS rfl rfl (by decide) (rv_rem (hS.ev rfl) (hS.ev rfl) (by decide)) fun a hS => ?_
      refine st_val hS rfl rfl (by decide) (rv_add (hS.ev rfl) (hS.ev rfl)) fun a hS => ?_
      refine st_val hS rfl rfl (by decide) (rv_conv Try.underlying3 Try.underlying5 (hS.ev rfl)) fun a hS => ?_
      obtain ⟨v59, w, hr, hM⟩ := Mem.litE (f := (Value.int IntKind.u8)) (dst := some 15) (ty := _) (pos := _) (af := _) (gd := _) (ps := [(0, .tmp 14)]) ([(IntKind.u8.wrap (IntKind.i64.wrap ((x42.tmod 128) + 128)))] : List (Int)) u8_one hM hS Try.underlying33 ty_el_5 rfl rfl rfl rfl
      refine st_val hS rfl rfl (by decide) hr fun a hS => ?_
      obtain ⟨_, hx, hF⟩ := bind_some hF
      have hM := hM.pick [1, 0] (by decide) rfl
      obtain ⟨v60, w, hr, hM⟩ := Mem.appE (f := (Value.int IntKind.u8)) (S := _) (R := [(true, ow 5 v59 (List.map (Value.int IntKind.u8) ([(IntKind.u8.wrap (IntKind.i64.wrap ((x42.tmod 128) + 128)))] : List (Int))))]) (ρ := a.eval) (dst := some 16) (ty := _) (pos := _) (af := _) (gd := _) (x := .tmp 10) (y := .tmp 15) u8_one hM Try.underlying33 ty_el_5 rfl (by decide) (hS.ev rfl) (hS.ev rfl) (rd_of_ow (hM.get 1 rfl)) (catO_some hx)
      refine st_val hS rfl rfl (by decide) hr fun a hS => ?_
      refine st_val hS rfl rfl (by decide) (rv_assign (hS.ev rfl)) fun a hS => ?_
      refine wpList_nil ?_
      refine hK56 _ _ ?_
      refine wp_region_lit ?_
      refine st_val hS rfl rfl (by decide) (rv_move (hS.ev rfl)) fun a hS => ?_
      refine st_val hS rfl rfl (by decide) (rv_quo (hS.ev rfl) (hS.ev rfl) (by decide)) fun a hS => ?_
      refine st_val hS rfl rfl (by decide) (rv_assign (hS.ev rfl)) fun a hS => ?_
      refine wpList_nil ?_
      cases hF
      exact hN2 _ _ _ rfl ⟨v60, (hS.sub (sub_cons rfl (sub_cons rfl sub_nil))), (hM.pick [0] (by decide) rfl)⟩
    · refine cond_f hS rfl hc ?_
      refine wp_exit ?_
      cases hF
      exact hJ1 x42 l44 v43 _ _ (hS.sub (sub_cons rfl (sub_cons rfl sub_nil))) (hM.pick [0] (by decide) rfl) (by have e := hX2 _ rfl; subst e; exact hF2)


theorem c_laws_FnExactEncodeVarint (F : Nat) (p0_aN : Int) {r : Bool} (hF : S_laws_FnExactEncodeVarint F p0_aN = some r) (w0 : World) :
    Calls Try.prog 6 [(Value.int IntKind.i64 p0_aN)].toArray w0 (retPost fun v w' => v = (Value.bool r) ∧ Mem Nob w0 w' []) := by
  have hM : Mem Nob w0 w0 [] := (Mem.nil w0)
  refine enter2 Try.func6 rfl rfl rfl fun Q a hQr hQn hQp hS => ?_
  have hS : Sl 12 [(0, (Value.int IntKind.i64 p0_aN))] a := hS
  unfold S_laws_FnExactEncodeVarint at hF
  refine wp_seq_k fun K1 hK1 => ?_
  refine wp_region_lit ?_
  refine st_val hS rfl rfl (by decide) (rv_assign (hS.ev rfl)) fun a hS => ?_
  refine wpList_nil ?_
  refine hK1 _ _ ?_
  refine wp_seq_k fun K2 hK2 => ?_
  refine wp_region_lit ?_
  refine st_val hS rfl rfl (by decide) (rv_move (hS.ev rfl)) fun a hS => ?_
  obtain ⟨r4, hr, hF⟩ := bind_some hF
  refine st_wp hS rfl (wp_call hS rfl rfl (by decide) fn_ok_13 rfl (c_spec_EncodeVarint F p0_aN hr _) fun v w a hK hS => ?_)
  obtain ⟨rfl, hN⟩ := hK
  have hM := hM.fra hN.fr
  refine st_val hS rfl rfl (by decide) (rv_assign (hS.ev rfl)) fun a hS => ?_
  refine wpList_nil ?_
  refine hK2 _ _ ?_
  refine wp_seq_k fun K5 hK5 => ?_
  refine wp_region_lit ?_
  refine st_val hS rfl rfl (by decide) (rv_move (hS.ev rfl)) fun a hS => ?_
  obtain ⟨r7, hr, hF⟩ := bind_some hF
  refine st_wp hS rfl (wp_call hS rfl rfl (by decide) fn_ok_14 rfl (c_impl_EncodeVarint F p0_aN hr _) fun v w a hK hS => ?_)
  obtain ⟨rfl, hN⟩ := hK
  have hM := hM.fra hN.fr
  refine st_val hS rfl rfl (by decide) (rv_assign (hS.ev rfl)) fun a hS => ?_
  refine wpList_nil ?_
  refine hK5 _ _ ?_
  refine wp_seq_k fun K8 hK8 => ?_
  refine wp_seq_k fun K11 hK11 => ?_
  refine wp_region_lit ?_
  refine st_val hS rfl rfl (by decide) (rv_move (hS.ev rfl)) fun a hS => ?_
  refine st_val hS rfl rfl (by decide) (rv_move (hS.ev rfl)) fun a hS => ?_
  refine st_val hS rfl rfl (by decide) (rv_str_neq (hS.ev rfl) (hS.ev rfl)) fun a hS => ?_
  refine wpList_nil ?_
  refine hK11 _ _ ?_
  rcases ite_some hF with ⟨hc, hF⟩ | ⟨hc, hF⟩
  · refine cond_t hS rfl hc ?_
    refine wp_seq_k fun K12 hK12 => ?_
    refine wp_region_lit ?_
    refine st_val hS rfl rfl (by decide) (rv_assign (hS.ev rfl)) fun a hS => ?_
    refine wpList_nil ?_
    refine hK12 _ _ ?_
    refine wp_ret ?_
    cases hF
    exact hQr _ _ (r_1 hS rfl rfl ⟨rfl, hM.pick [] (by decide) rfl⟩)
  · refine cond_f hS rfl hc ?_
    refine wp_skip ?_
    refine hK8 _ _ ?_
    refine wp_seq_k fun K13 hK13 => ?_
    refine wp_region_lit ?_
    refine st_val hS rfl rfl (by decide) (rv_assign (hS.ev rfl)) fun a hS => ?_
    refine wpList_nil ?_
    refine hK13 _ _ ?_
    refine wp_ret ?_
    cases hF
    exact hQr _ _ (r_1 hS rfl rfl ⟨rfl, hM.pick [] (by decide) rfl⟩)


theorem c_spec_EncodeFixed (F : Nat) (p0_n : Int) (p1_width : Int) {r : (List UInt8)} (hF : S_spec_EncodeFixed F p0_n p1_width = some r) (w0 : World) :
    Calls Try.prog 15 [(Value.int IntKind.i64 p0_n), (Value.int IntKind.i64 p1_width)].toArray w0 (retPost fun v w' => v = (Value.string (bs r)) ∧ Mem Nob w0 w' []) := by
  have hM : Mem Nob w0 w0 [] := (Mem.nil w0)
  refine enter2 Try.func15 rfl rfl rfl fun Q a hQr hQn hQp hS => ?_
  have hS : Sl 31 [(0, (Value.int IntKind.i64 p0_n)), (1, (Value.int IntKind.i64 p1_width))] a := hS
  unfold S_spec_EncodeFixed at hF
  refine wp_seq_k fun K1 hK1 => ?_
  refine wp_region_lit ?_
  refine st_val hS rfl rfl (by decide) (rv_assign (hS.ev rfl)) fun a hS => ?_
  refine wpList_nil ?_
  refine hK1 _ _ ?_
  refine wp_seq_k fun K2 hK2 => ?_
  refine wp_seq_k fun K8 hK8 => ?_
  have hJ1 : ∀ (p10 : Bool) (a : Act) (w : World), Sl 31 [(0, (Value.int IntKind.i64 p0_n)), (1, (Value.int IntKind.i64 p1_width)), (13, (Value.bool p10))] a → Mem Nob w0 w [] → S_spec_EncodeFixed_j1 F p0_n p1_width p10 = some r → K8 a w := by
    intro p10 a w hS hM hF
    unfold S_spec_EncodeFixed_j1 at hF
    refine hK8 _ _ ?_
    rcases ite_some hF with ⟨hc, hF⟩ | ⟨hc, hF⟩
    · refine cond_t hS rfl hc ?_
      refine wp_seq_k fun K11 hK11 => ?_
      refine wp_region_lit ?_
      refine st_val hS rfl rfl (by decide) (rv_assign (hS.ev rfl)) fun a hS => ?_
      refine wpList_nil ?_
      refine hK11 _ _ ?_
      refine wp_ret ?_
      cases hF
      exact hQr _ _ (r_1 hS rfl rfl ⟨rfl, hM.pick [] (by decide) rfl⟩)
    · refine cond_f hS rfl hc ?_
      refine wp_skip ?_
      refine hK2 _ _ ?_
      refine wp_seq_k fun K12 hK12 => ?_
      refine wp_region_lit ?_
      refine st_val hS rfl rfl (by decide) (rv_assign (hS.ev rfl)) fun a hS => ?_
      refine wpList_nil ?_
      refine hK12 _ _ ?_
      refine wp_seq_k fun K13 hK13 => ?_
      have hJ2 : ∀ (x38 : Int) (s39 : List UInt8) (a : Act) (w : World), Sl 31 [(0, (Value.int IntKind.i64 x38)), (5, (Value.string (bs s39)))] a → Mem Nob w0 w [] → S_spec_EncodeFixed_j2 F x38 s39 = some r → K13 a w := by
        intro x38 s39 a w hS hM hF
        unfold S_spec_EncodeFixed_j2 at hF
        refine hK13 _ _ ?_
        refine wp_seq_k fun K40 hK40 => ?_
        refine wp_seq_k fun K43 hK43 => ?_
        refine wp_region_lit ?_
        refine st_val hS rfl rfl (by decide) (rv_move (hS.ev rfl)) fun a hS => ?_
        refine st_val hS rfl rfl (by decide) (rv_gtr (hS.ev rfl) (hS.ev rfl)) fun a hS => ?_
        refine wpList_nil ?_
        refine hK43 _ _ ?_
        rcases ite_some hF with ⟨hc, hF⟩ | ⟨hc, hF⟩
        · refine cond_t hS rfl hc ?_
          refine wp_seq_k fun K44 hK44 => ?_
          refine wp_region_lit ?_
          refine st_val hS rfl rfl (by decide) (rv_assign (hS.ev rfl)) fun a hS => ?_
          refine wpList_nil ?_
          refine hK44 _ _ ?_
          refine wp_ret ?_
          cases hF
          exact hQr _ _ (r_1 hS rfl rfl ⟨rfl, hM.pick [] (by decide) rfl⟩)
        · refine cond_f hS rfl hc ?_
          refine wp_skip ?_
          refine hK40 _ _ ?_
          refine wp_seq_k fun K45 hK45 => ?_
          refine wp_region_lit ?_
          refine st_val hS rfl rfl (by decide) (rv_move (hS.ev rfl)) fun a hS => ?_
          refine st_val hS rfl rfl (by decide) (rv_assign (hS.ev rfl)) fun a hS => ?_
          refine wpList_nil ?_
          refine hK45 _ _ ?_
          refine wp_ret ?_
          cases hF
          exact hQr _ _ (r_1 hS rfl rfl ⟨rfl, hM.pick [] (by decide) rfl⟩)
      refine wp_seq_k fun K46 hK46 => ?_
      refine wp_region_lit ?_
      refine st_val hS rfl rfl (by decide) (rv_assign (hS.ev rfl)) fun a hS => ?_
      refine wpList_nil ?_
      refine hK46 _ _ ?_
      refine wp_block ?_
      obtain ⟨lb3, hl3, hF3⟩ := bind_some hF
      refine wp_loop_sh (fun s => S_spec_EncodeFixed_l3 F p1_width s.1 s.2.1 s.2.2) (fun s a w => Sl 31 [(0, (Value.int IntKind.i64 s.1)), (1, (Value.int IntKind.i64 p1_width)), (5, (Value.string (bs s.2.1))), (6, (Value.int IntKind.i64 s.2.2))] a ∧ Mem Nob w0 w []) hl3 ⟨(hS.sub (sub_cons rfl (sub_cons rfl (sub_cons rfl (sub_cons rfl sub_nil))))), (hM.pick [] (by decide) rfl)⟩ ?_
      rintro K3 ⟨x47, s48, x49⟩ a w res3 ⟨hS, hM⟩ hF hN3 hX3
      have hF : S_spec_EncodeFixed_l3 F p1_width x47 s48 x49 = some res3 := hF
      have hS : Sl 31 [(0, (Value.int IntKind.i64 x47)), (1, (Value.int IntKind.i64 p1_width)), (5, (Value.string (bs s48))), (6, (Value.int IntKind.i64 x49))] a := hS
      have hM : Mem Nob w0 w [] := hM
      unfold S_spec_EncodeFixed_l3 at hF
      refine wp_seq_k fun K60 hK60 => ?_
      refine wp_seq_k fun K62 hK62 => ?_
      refine wp_region_lit ?_
      refine st_val hS rfl rfl (by decide) (rv_move (hS.ev rfl)) fun a hS => ?_
      refine st_val hS rfl rfl (by decide) (rv_move (hS.ev rfl)) fun a hS => ?_
      refine st_val hS rfl rfl (by decide) (rv_lss (hS.ev rfl) (hS.ev rfl)) fun a hS => ?_
      refine wpList_nil ?_
      refine hK62 _ _ ?_
      rcases ite_some hF with ⟨hc, hF⟩ | ⟨hc, hF⟩
      · refine cond_t hS rfl hc ?_
        refine wp_skip ?_
        refine hK60 _ _ ?_
        refine wp_seq_k fun K63 hK63 => ?_
        refine wp_block ?_
        refine wp_seq_k fun K67 hK67 => ?_
        refine wp_region_lit ?_
        refine st_val hS rfl rfl (by decide) (rv_move (hS.ev rfl)) fun a hS => ?_
        refine st_val hS rfl rfl (by decide) (rv_rem (hS.ev rfl) (hS.ev rfl) (by decide)) fun a hS => ?_
        refine st_val hS rfl rfl (by decide) (rv_conv Try.underlying3 Try.underlying5 (hS.ev rfl)) fun a hS => ?_
        obtain ⟨v69, w, hr, hM⟩ := Mem.litE (f := (Value.int IntKind.u8)) (dst := some 22) (ty := _) (pos := _) (af := _) (gd := _) (ps := [(0, .tmp 21)]) ([(IntKind.u8.wrap (x47.tmod 256))] : List (Int)) u8_one hM hS Try.underlying33 ty_el_5 rfl rfl rfl rfl
        refine st_val hS rfl rfl (by decide) hr fun a hS => ?_
        refine st_val hS rfl rfl (by decide) (rv_bstr Try.underlying33 Try.underlying5 Try.underlying9 (hS.ev rfl) (rd_of_ow (hM.get 0 rfl))) fun a hS => ?_
        refine st_val hS rfl rfl (by decide) (rv_move (hS.ev rfl)) fun a hS => ?_
        obtain ⟨_, hx, hF⟩ := bind_some hF
        have hi0 := catO_some hx
        refine st_val hS rfl rfl (by decide) (rv_str_add (hS.ev rfl) (hS.ev rfl) hi0) fun a hS => ?_
        refine st_val hS rfl rfl (by decide) (rv_assign (hS.ev rfl)) fun a hS => ?_
        refine wpList_nil ?_
        refine hK67 _ _ ?_
        refine wp_region_lit ?_
        refine st_val hS rfl rfl (by decide) (rv_move (hS.ev rfl)) fun a hS => ?_
        refine st_val hS rfl rfl (by decide) (rv_quo (hS.ev rfl) (hS.ev rfl) (by decide)) fun a hS => ?_
        refine st_val hS rfl rfl (by decide) (rv_assign (hS.ev rfl)) fun a hS => ?_
        refine wpList_nil ?_
        refine hK63 _ _ ?_
        refine wp_region_lit ?_
        refine st_val hS rfl rfl (by decide) (rv_move (hS.ev rfl)) fun a hS => ?_
        refine st_val hS rfl rfl (by decide) (rv_add (hS.ev rfl) (hS.ev rfl)) fun a hS => ?_
        refine st_val hS rfl rfl (by decide) (rv_assign (hS.ev rfl)) fun a hS => ?_
        refine wpList_nil ?_
        cases hF
        exact hN3 _ _ _ rfl ⟨(hS.sub (sub_cons rfl (sub_cons rfl (sub_cons rfl (sub_cons rfl sub_nil))))), (hM.pick [] (by decide) rfl)⟩
      · refine cond_f hS rfl hc ?_
        refine wp_exit ?_
        cases hF
        exact hJ2 x47 s48 _ _ (hS.sub (sub_cons rfl (sub_cons rfl sub_nil))) (hM.pick [] (by decide) rfl) (by have e := hX3 _ rfl; subst e; exact hF3)
  refine wp_region_lit ?_
  refine st_val hS rfl rfl (by decide) (rv_move (hS.ev rfl)) fun a hS => ?_
  obtain ⟨r70, hr, hF⟩ := bind_some hF
  refine st_wp hS rfl (wp_call hS rfl rfl (by decide) fn_ok_20 rfl (c_spec_l1In F p1_width 1 7 hr _) fun v w a hK hS => ?_)
  obtain ⟨rfl, hN⟩ := hK
  have hM := hM.fra hN.fr
  refine st_val hS rfl rfl (by decide) (rv_not (hS.ev rfl)) fun a hS => ?_
  refine st_val hS rfl rfl (by decide) (rv_move (hS.ev rfl)) fun a hS => ?_
  rcases ite_some hF with ⟨hc, hF⟩ | ⟨hc, hF⟩
  · have hS := hS.setb (t := 10) rfl hc
    refine st_skip hS rfl rfl (by decide) fun a hS => ?_
    refine st_skip hS rfl rfl (by decide) fun a hS => ?_
    refine st_val hS rfl rfl (by decide) (rv_pick_t (hS.ev rfl) (hS.ev rfl)) fun a hS => ?_
    refine wpList_nil ?_
    exact hJ1 true _ _ (hS.sub (sub_cons rfl (sub_cons rfl (sub_cons rfl sub_nil)))) (hM.pick [] (by decide) rfl) hF
  · have hS := hS.setb (t := 10) rfl hc
    refine st_val hS rfl rfl (by decide) (rv_move (hS.ev rfl)) fun a hS => ?_
    refine st_val hS rfl rfl (by decide) (rv_lss (hS.ev rfl) (hS.ev rfl)) fun a hS => ?_
    refine st_val hS rfl rfl (by decide) (rv_pick_f (hS.ev rfl) (hS.ev rfl)) fun a hS => ?_
    refine wpList_nil ?_
    exact hJ1 (decide (p0_n < 0)) _ _ (hS.sub (sub_cons rfl (sub_cons rfl (sub_cons rfl sub_nil)))) (hM.pick [] (by decide) rfl) hF


theorem c_impl_EncodeFixed (F : Nat) (p0_n : Int) (p1_width : Int) {r : (List UInt8)} (hF : S_impl_EncodeFixed F p0_n p1_width = some r) (w0 : World) :
    Calls Try.prog 16 [(Value.int IntKind.i64 p0_n), (Value.int IntKind.i64 p1_width)].toArray w0 (retPost fun v w' => v = (Value.string (bs r)) ∧ Mem Nob w0 w' []) := by
  have hM : Mem Nob w0 w0 [] := (Mem.nil w0)
  refine enter2 Try.func16 rfl rfl rfl fun Q a hQr hQn hQp hS => ?_
  have hS : Sl 38 [(0, (Value.int IntKind.i64 p0_n)), (1, (Value.int IntKind.i64 p1_width))] a := hS
  unfold S_impl_EncodeFixed at hF
  refine wp_seq_k fun K1 hK1 => ?_
  refine wp_region_lit ?_
  refine st_val hS rfl rfl (by decide) (rv_assign (hS.ev rfl)) fun a hS => ?_
  refine wpList_nil ?_
  refine hK1 _ _ ?_
  refine wp_seq_k fun K2 hK2 => ?_
  refine wp_seq_k fun K8 hK8 => ?_
  have hJ1 : ∀ (p10 : Bool) (a : Act) (w : World), Sl 38 [(0, (Value.int IntKind.i64 p0_n)), (1, (Value.int IntKind.i64 p1_width)), (20, (Value.bool p10))] a → Mem Nob w0 w [] → S_impl_EncodeFixed_j1 F p0_n p1_width p10 = some r → K8 a w := by
    intro p10 a w hS hM hF
    unfold S_impl_EncodeFixed_j1 at hF
    refine hK8 _ _ ?_
    rcases ite_some hF with ⟨hc, hF⟩ | ⟨hc, hF⟩
    · refine cond_t hS rfl hc ?_
      refine wp_seq_k fun K11 hK11 => ?_
      refine wp_region_lit ?_
      refine st_val hS rfl rfl (by decide) (rv_assign (hS.ev rfl)) fun a hS => ?_
      refine wpList_nil ?_
      refine hK11 _ _ ?_
      refine wp_ret ?_
      cases hF
      exact hQr _ _ (r_1 hS rfl rfl ⟨rfl, hM.pick [] (by decide) rfl⟩)
    · refine cond_f hS rfl hc ?_
      refine wp_skip ?_
      refine hK2 _ _ ?_
      refine wp_seq_k fun K12 hK12 => ?_
      refine wp_region_lit ?_
      refine st_val hS rfl rfl (by decide) (rv_move (hS.ev rfl)) fun a hS => ?_
      obtain ⟨_, hx, hF⟩ := bind_some hF
      obtain ⟨v14, w, hr, hM⟩ := hM.makeE (f := (Value.int IntKind.u8)) (c := (0 : Int)) (ρ := a.eval) (dst := some 22) (ty := _) (pos := _) (af := _) (gd := _) (x := .tmp 21) (y := .tmp 21) Try.underlying33 ty_el_5 u8_one (by decide) (hS.ev rfl) (hS.ev rfl) (mkO_some hx)
      refine st_val hS rfl rfl (by decide) hr fun a hS => ?_
      refine st_val hS rfl rfl (by decide) (rv_assign (hS.ev rfl)) fun a hS => ?_
      refine wpList_nil ?_
      refine hK12 _ _ ?_
      refine wp_seq_k fun K15 hK15 => ?_
      have hJ2 : ∀ (l52 : List Int) (a : Act) (w : World), Sl 38 [(5, v14)] a → Mem Nob w0 w [(true, ow 5 v14 (List.map (Value.int IntKind.u8) l52))] → S_impl_EncodeFixed_j2 F l52 = some r → K15 a w := by
        intro l52 a w hS hM hF
        unfold S_impl_EncodeFixed_j2 at hF
        refine hK15 _ _ ?_
        refine wp_seq_k fun K53 hK53 => ?_
        refine wp_region_lit ?_
        refine st_val hS rfl rfl (by decide) (rv_move (hS.ev rfl)) fun a hS => ?_
        refine st_val hS rfl rfl (by decide) (rv_bstr Try.underlying33 Try.underlying5 Try.underlying9 (hS.ev rfl) (rd_of_ow (hM.get 0 rfl))) fun a hS => ?_
        refine st_val hS rfl rfl (by decide) (rv_assign (hS.ev rfl)) fun a hS => ?_
        refine wpList_nil ?_
        refine hK53 _ _ ?_
        refine wp_ret ?_
        cases hF
        exact hQr _ _ (r_1 hS rfl rfl ⟨rfl, hM.pick [] (by decide) rfl⟩)
      refine wp_seq_k fun K54 hK54 => ?_
      refine wp_region_lit ?_
      refine st_val hS rfl rfl (by decide) (rv_move (hS.ev rfl)) fun a hS => ?_
      refine st_val hS rfl rfl (by decide) (rv_sub (hS.ev rfl) (hS.ev rfl)) fun a hS => ?_
      refine st_val hS rfl rfl (by decide) (rv_assign (hS.ev rfl)) fun a hS => ?_
      refine wpList_nil ?_
      refine hK54 _ _ ?_
      refine wp_block ?_
      obtain ⟨lb3, hl3, hF3⟩ := bind_some hF
      refine wp_loop_sh (fun s => S_impl_EncodeFixed_l3 F s.1 s.2.1 s.2.2) (fun s a w => Sl 38 [(0, (Value.int IntKind.i64 s.1)), (5, v14), (6, (Value.int IntKind.i64 s.2.2))] a ∧ Mem Nob w0 w [(true, ow 5 v14 (List.map (Value.int IntKind.u8) s.2.1))]) hl3 ⟨(hS.sub (sub_cons rfl (sub_cons rfl (sub_cons rfl sub_nil)))), (hM.pick [0] (by decide) rfl)⟩ ?_
      rintro K3 ⟨x67, l68, x69⟩ a w res3 ⟨hS, hM⟩ hF hN3 hX3
      have hF : S_impl_EncodeFixed_l3 F x67 l68 x69 = some res3 := hF
      have hS : Sl 38 [(0, (Value.int IntKind.i64 x67)), (5, v14), (6, (Value.int IntKind.i64 x69))] a := hS
      have hM : Mem Nob w0 w [(true, ow 5 v14 (List.map (Value.int IntKind.u8) l68))] := hM
      unfold S_impl_EncodeFixed_l3 at hF
      refine wp_seq_k fun K80 hK80 => ?_
      refine wp_seq_k fun K82 hK82 => ?_
      refine wp_region_lit ?_
      refine st_val hS rfl rfl (by decide) (rv_move (hS.ev rfl)) fun a hS => ?_
      refine st_val hS rfl rfl (by decide) (rv_geq (hS.ev rfl) (hS.ev rfl)) fun a hS => ?_
      refine wpList_nil ?_
      refine hK82 _ _ ?_
      rcases ite_some hF with ⟨hc, hF⟩ | ⟨hc, hF⟩
      · refine cond_t hS rfl hc ?_
        refine wp_skip ?_
        refine hK80 _ _ ?_
        refine wp_seq_k fun K83 hK83 => ?_
        refine wp_block ?_
        refine wp_seq_k fun K87 hK87 => ?_
        refine wp_region_lit ?_
        refine st_val hS rfl rfl (by decide) (rv_move (hS.ev rfl)) fun a hS => ?_
        refine st_val hS rfl rfl (by decide) (rv_move (hS.ev rfl)) fun a hS => ?_
        refine st_val hS rfl rfl (by decide) (rv_move (hS.ev rfl)) fun a hS => ?_
        refine st_val hS rfl rfl (by decide) (rv_conv Try.underlying3 Try.underlying5 (hS.ev rfl)) fun a hS => ?_
        obtain ⟨x89, hx, hF⟩ := bind_some hF
        obtain ⟨hi0, hi1, hex89⟩ := idxL_some hx
        refine st_val hS rfl rfl (by decide) (rv_indexAddr Try.underlying33 ty_el_5 (hS.ev rfl) (hS.ev rfl) (rd_of_ow (hM.get 0 rfl)) hi0 (map_len hi1)) fun a hS => ?_
        obtain ⟨w, hr, hM⟩ := hM.st_el (f := (Value.int IntKind.u8)) (n := x69.toNat) (c := (IntKind.u8.wrap x67)) (ρ := a.eval) (dst := none) (ty := _) (pos := _) (af := _) (gd := _) (x := .tmp 33) (y := .tmp 32) u8_one (hS.ev rfl) (hS.ev rfl) ty_sz_5 (List.getElem?_eq_some_iff.1 hex89).1
        refine st_unit hS rfl rfl hr ?_
        refine wpList_nil ?_
        refine hK87 _ _ ?_
        refine wp_region_lit ?_
        refine st_val hS rfl rfl (by decide) (rv_move (hS.ev rfl)) fun a hS => ?_
        refine st_val hS rfl rfl (by decide) (rv_shr (hS.ev rfl) (hS.ev rfl) (by decide)) fun a hS => ?_
        refine st_val hS rfl rfl (by decide) (rv_assign (hS.ev rfl)) fun a hS => ?_
        refine wpList_nil ?_
        refine hK83 _ _ ?_
        refine wp_region_lit ?_
        refine st_val hS rfl rfl (by decide) (rv_move (hS.ev rfl)) fun a hS => ?_
        refine st_val hS rfl rfl (by decide) (rv_sub (hS.ev rfl) (hS.ev rfl)) fun a hS => ?_
        refine st_val hS rfl rfl (by decide) (rv_assign (hS.ev rfl)) fun a hS => ?_
        refine wpList_nil ?_
        cases hF
        exact hN3 _ _ _ rfl ⟨(hS.sub (sub_cons rfl (sub_cons rfl (sub_cons rfl sub_nil)))), (hM.pick [0] (by decide) rfl)⟩
      · refine cond_f hS rfl hc ?_
        refine wp_exit ?_
        cases hF
        exact hJ2 l68 _ _ (hS.sub (sub_cons rfl sub_nil)) (hM.pick [0] (by decide) rfl) (by have e := hX3 _ rfl; subst e; exact hF3)
  refine wp_region_lit ?_
  refine st_val hS rfl rfl (by decide) (rv_move (hS.ev rfl)) fun a hS => ?_
  obtain ⟨r90, hr, hF⟩ := bind_some hF
  refine st_wp hS rfl (wp_call hS rfl rfl (by decide) fn_ok_21 rfl (c_impl_within F p1_width 1 7 hr _) fun v w a hK hS => ?_)
  obtain ⟨rfl, hN⟩ := hK
  have hM := hM.fra hN.fr
  refine st_val hS rfl rfl (by decide) (rv_not (hS.ev rfl)) fun a hS => ?_
  refine st_val hS rfl rfl (by decide) (rv_move (hS.ev rfl)) fun a hS => ?_
  rcases ite_some hF with ⟨hc, hF⟩ | ⟨hc, hF⟩
  · have hS := hS.setb (t := 10) rfl hc
    refine st_skip hS rfl rfl (by decide) fun a hS => ?_
    refine st_skip hS rfl rfl (by decide) fun a hS => ?_
    refine st_val hS rfl rfl (by decide) (rv_pick_t (hS.ev rfl) (hS.ev rfl)) fun a hS => ?_
    refine st_val hS rfl rfl (by decide) (rv_move (hS.ev rfl)) fun a hS => ?_
    refine st_skip hS rfl rfl (by decide) fun a hS => ?_
    refine st_skip hS rfl rfl (by decide) fun a hS => ?_
    refine st_skip hS rfl rfl (by decide) fun a hS => ?_
    refine st_skip hS rfl rfl (by decide) fun a hS => ?_
    refine st_skip hS rfl rfl (by decide) fun a hS => ?_
    refine st_val hS rfl rfl (by decide) (rv_pick_t (hS.ev rfl) (hS.ev rfl)) fun a hS => ?_
    refine wpList_nil ?_
    exact hJ1 true _ _ (hS.sub (sub_cons rfl (sub_cons rfl (sub_cons rfl sub_nil)))) (hM.pick [] (by decide) rfl) hF
  · have hS := hS.setb (t := 10) rfl hc
    refine st_val hS rfl rfl (by decide) (rv_move (hS.ev rfl)) fun a hS => ?_
    refine st_val hS rfl rfl (by decide) (rv_lss (hS.ev rfl) (hS.ev rfl)) fun a hS => ?_
    refine st_val hS rfl rfl (by decide) (rv_pick_f (hS.ev rfl) (hS.ev rfl)) fun a hS => ?_
    refine st_val hS rfl rfl (by decide) (rv_move (hS.ev rfl)) fun a hS => ?_
    rcases ite_some hF with ⟨hc, hF⟩ | ⟨hc, hF⟩
    · have hS := hS.setb (t := 14) rfl hc
      refine st_skip hS rfl rfl (by decide) fun a hS => ?_
      refine st_skip hS rfl rfl (by decide) fun a hS => ?_
      refine st_skip hS rfl rfl (by decide) fun a hS => ?_
      refine st_skip hS rfl rfl (by decide) fun a hS => ?_
      refine st_skip hS rfl rfl (by decide) fun a hS => ?_
      refine st_val hS rfl rfl (by decide) (rv_pick_t (hS.ev rfl) (hS.ev rfl)) fun a hS => ?_
      refine wpList_nil ?_
      exact hJ1 true _ _ (hS.sub (sub_cons rfl (sub_cons rfl (sub_cons rfl sub_nil)))) (hM.pick [] (by decide) rfl) hF
    · have hS := hS.setb (t := 14) rfl hc
      refine st_val hS rfl rfl (by decide) (rv_move (hS.ev rfl)) fun a hS => ?_
      refine st_val hS rfl rfl (by decide) (rv_move (hS.ev rfl)) fun a hS => ?_
      refine st_val hS rfl rfl (by decide) (rv_mul (hS.ev rfl) (hS.ev rfl)) fun a hS => ?_
      obtain ⟨_, hx, hF⟩ := bind_some hF
      have hi0 := nnO_some hx
      refine st_val hS rfl rfl (by decide) (rv_shr (hS.ev rfl) (hS.ev rfl) hi0) fun a hS => ?_
      refine st_val hS rfl rfl (by decide) (rv_neq (hS.ev rfl) (hS.ev rfl)) fun a hS => ?_
      refine st_val hS rfl rfl (by decide) (rv_pick_f (hS.ev rfl) (hS.ev rfl)) fun a hS => ?_
      refine wpList_nil ?_
      exact hJ1 ((shR p0_n (IntKind.i64.wrap (8 * p1_width))) != 0) _ _ (hS.sub (sub_cons rfl (sub_cons rfl (sub_cons rfl sub_nil)))) (hM.pick [] (by decide) rfl) hF


theorem c_laws_FnExactEncodeFixed (F : Nat) (p0_aN : Int) (p1_aWidth : Int) {r : Bool} (hF : S_laws_FnExactEncodeFixed F p0_aN p1_aWidth = some r) (w0 : World) :
    Calls Try.prog 7 [(Value.int IntKind.i64 p0_aN), (Value.int IntKind.i64 p1_aWidth)].toArray w0 (retPost fun v w' => v = (Value.bool r) ∧ Mem Nob w0 w' []) := by
  have hM : Mem Nob w0 w0 [] := (Mem.nil w0)
  refine enter2 Try.func7 rfl rfl rfl fun Q a hQr hQn hQp hS => ?_
  have hS : Sl 16 [(0, (Value.int IntKind.i64 p0_aN)), (1, (Value.int IntKind.i64 p1_aWidth))] a := hS
  unfold S_laws_FnExactEncodeFixed at hF
  refine wp_seq_k fun K1 hK1 => ?_
  refine wp_region_lit ?_
  refine st_val hS rfl rfl (by decide) (rv_assign (hS.ev rfl)) fun a hS => ?_
  refine wpList_nil ?_
  refine hK1 _ _ ?_
  refine wp_seq_k fun K2 hK2 => ?_
  refine wp_region_lit ?_
  refine st_val hS rfl rfl (by decide) (rv_move (hS.ev rfl)) fun a hS => ?_
  refine st_val hS rfl rfl (by decide) (rv_move (hS.ev rfl)) fun a hS => ?_
  obtain ⟨r4, hr, hF⟩ := bind_some hF
  refine st_wp hS rfl (wp_call hS rfl rfl (by decide) fn_ok_15 rfl (c_spec_EncodeFixed F p0_aN p1_aWidth hr _) fun v w a hK hS => ?_)
  obtain ⟨rfl, hN⟩ := hK
  have hM := hM.fra hN.fr
  refine st_val hS rfl rfl (by decide) (rv_assign (hS.ev rfl)) fun a hS => ?_
  refine wpList_nil ?_
  refine hK2 _ _ ?_
  refine wp_seq_k fun K5 hK5 => ?_
  refine wp_region_lit ?_
  refine st_val hS rfl rfl (by decide) (rv_move (hS.ev rfl)) fun a hS => ?_
  refine st_val hS rfl rfl (by decide) (rv_move (hS.ev rfl)) fun a hS => ?_
  obtain ⟨r7, hr, hF⟩ := bind_some hF
  refine st_wp hS rfl (wp_call hS rfl rfl (by decide) fn_ok_16 rfl (c_impl_EncodeFixed F p0_aN p1_aWidth hr _) fun v w a hK hS => ?_)
  obtain ⟨rfl, hN⟩ := hK
  have hM := hM.fra hN.fr
  refine st_val hS rfl rfl (by decide) (rv_assign (hS.ev rfl)) fun a hS => ?_
  refine wpList_nil ?_
  refine hK5 _ _ ?_
  refine wp_seq_k fun K8 hK8 => ?_
  refine wp_seq_k fun K11 hK11 => ?_
  refine wp_region_lit ?_
  refine st_val hS rfl rfl (by decide) (rv_move (hS.ev rfl)) fun a hS => ?_
  refine st_val hS rfl rfl (by decide) (rv_move (hS.ev rfl)) fun a hS => ?_
  refine st_val hS rfl rfl (by decide) (rv_str_neq (hS.ev rfl) (hS.ev rfl)) fun a hS => ?_
  refine wpList_nil ?_
  refine hK11 _ _ ?_
  rcases ite_some hF with ⟨hc, hF⟩ | ⟨hc, hF⟩
  · refine cond_t hS rfl hc ?_
    refine wp_seq_k fun K12 hK12 => ?_
    refine wp_region_lit ?_
    refine st_val hS rfl rfl (by decide) (rv_assign (hS.ev rfl)) fun a hS => ?_
    refine wpList_nil ?_
    refine hK12 _ _ ?_
    refine wp_ret ?_
    cases hF
    exact hQr _ _ (r_1 hS rfl rfl ⟨rfl, hM.pick [] (by decide) rfl⟩)
  · refine cond_f hS rfl hc ?_
    refine wp_skip ?_
    refine hK8 _ _ ?_
    refine wp_seq_k fun K13 hK13 => ?_
    refine wp_region_lit ?_
    refine st_val hS rfl rfl (by decide) (rv_assign (hS.ev rfl)) fun a hS => ?_
    refine wpList_nil ?_
    refine hK13 _ _ ?_
    refine wp_ret ?_
    cases hF
    exact hQr _ _ (r_1 hS rfl rfl ⟨rfl, hM.pick [] (by decide) rfl⟩)


theorem c_spec_l3Fine (F : Nat) (p0_set : Int) {r : Bool} (hF : S_spec_l3Fine F p0_set = some r) (w0 : World) :
    Calls Try.prog 24 [(Value.int IntKind.i64 p0_set)].toArray w0 (retPost fun v w' => v = (Value.bool r) ∧ Mem Nob w0 w' []) := by
  have hM : Mem Nob w0 w0 [] := (Mem.nil w0)
  refine enter2 Try.func24 rfl rfl rfl fun Q a hQr hQn hQp hS => ?_
  have hS : Sl 5 [(0, (Value.int IntKind.i64 p0_set))] a := hS
  unfold S_spec_l3Fine at hF
  refine wp_seq_k fun K1 hK1 => ?_
  refine wp_region_lit ?_
  refine st_val hS rfl rfl (by decide) (rv_assign (hS.ev rfl)) fun a hS => ?_
  refine wpList_nil ?_
  refine hK1 _ _ ?_
  refine wp_seq_k fun K2 hK2 => ?_
  refine wp_region_lit ?_
  refine st_val hS rfl rfl (by decide) (rv_move (hS.ev rfl)) fun a hS => ?_
  obtain ⟨r4, hr, hF⟩ := bind_some hF
  refine st_wp hS rfl (wp_call hS rfl rfl (by decide) fn_ok_20 rfl (c_spec_l1In F p0_set 0 127 hr _) fun v w a hK hS => ?_)
  obtain ⟨rfl, hN⟩ := hK
  have hM := hM.fra hN.fr
  refine st_val hS rfl rfl (by decide) (rv_assign (hS.ev rfl)) fun a hS => ?_
  refine wpList_nil ?_
  refine hK2 _ _ ?_
  refine wp_ret ?_
  cases hF
  exact hQr _ _ (r_1 hS rfl rfl ⟨rfl, hM.pick [] (by decide) rfl⟩)


theorem c_spec_ListOf (F : Nat) (p0_set : Int) {r : (List (Int))} (hF : S_spec_ListOf F p0_set = some r) (w0 : World) :
    Calls Try.prog 22 [(Value.int IntKind.i64 p0_set)].toArray w0 (retPost fun v w' => Mem Nob w0 w' [(true, ow 3 v (List.map (Value.int IntKind.i64) r))]) := by
  have hM : Mem Nob w0 w0 [] := (Mem.nil w0)
  refine enter2 Try.func22 rfl rfl rfl fun Q a hQr hQn hQp hS => ?_
  have hS : Sl 24 [(0, (Value.int IntKind.i64 p0_set))] a := hS
  unfold S_spec_ListOf at hF
  refine wp_seq_k fun K1 hK1 => ?_
  refine wp_region_lit ?_
  refine st_val hS rfl rfl (by decide) (rv_assign (hS.ev rfl)) fun a hS => ?_
  refine wpList_nil ?_
  refine hK1 _ _ ?_
  refine wp_seq_k fun K2 hK2 => ?_
  refine wp_region_lit ?_
  obtain ⟨v4, w, hr, hM⟩ := Mem.litE (f := (Value.int IntKind.i64)) (dst := some 5) (ty := _) (pos := _) (af := _) (gd := _) (ps := []) ([] : List (Int)) i64_one hM hS Try.underlying37 ty_el_3 rfl rfl rfl rfl
  refine st_val hS rfl rfl (by decide) hr fun a hS => ?_
  refine st_val hS rfl rfl (by decide) (rv_assign (hS.ev rfl)) fun a hS => ?_
  refine wpList_nil ?_
  refine hK2 _ _ ?_
  refine wp_seq_k fun K5 hK5 => ?_
  have hJ1 : ∀ (l47 : List Int) (v46 : Value) (a : Act) (w : World), Sl 24 [(3, v46)] a → Mem Nob w0 w [(true, ow 3 v46 (List.map (Value.int IntKind.i64) l47))] → S_spec_ListOf_j1 F l47 = some r → K5 a w := by
    intro l47 v46 a w hS hM hF
    unfold S_spec_ListOf_j1 at hF
    refine hK5 _ _ ?_
    refine wp_seq_k fun K48 hK48 => ?_
    refine wp_region_lit ?_
    refine st_val hS rfl rfl (by decide) (rv_move (hS.ev rfl)) fun a hS => ?_
    refine st_val hS rfl rfl (by decide) (rv_assign (hS.ev rfl)) fun a hS => ?_
    refine wpList_nil ?_
    refine hK48 _ _ ?_
    refine wp_ret ?_
    cases hF
    exact hQr _ _ (r_1 hS rfl rfl (hM.pick [0] (by decide) rfl))
  refine wp_seq_k fun K49 hK49 => ?_
  refine wp_region_lit ?_
  refine st_val hS rfl rfl (by decide) (rv_assign (hS.ev rfl)) fun a hS => ?_
  refine wpList_nil ?_
  refine hK49 _ _ ?_
  refine wp_block ?_
  obtain ⟨lb2, hl2, hF2⟩ := bind_some hF
  refine wp_loop_sh (fun s => S_spec_ListOf_l2 F p0_set s.1 s.2) (fun s a w => ∃ (v50 : Value), Sl 24 [(0, (Value.int IntKind.i64 p0_set)), (3, v50), (4, (Value.int IntKind.i64 s.2))] a ∧ Mem Nob w0 w [(true, ow 3 v50 (List.map (Value.int IntKind.i64) s.1))]) hl2 ⟨v4, (hS.sub (sub_cons rfl (sub_cons rfl (sub_cons rfl sub_nil)))), (hM.pick [0] (by decide) rfl)⟩ ?_
  rintro K2 ⟨l51, x52⟩ a w res2 ⟨v50, hS, hM⟩ hF hN2 hX2
  have hF : S_spec_ListOf_l2 F p0_set l51 x52 = some res2 := hF
  have hS : Sl 24 [(0, (Value.int IntKind.i64 p0_set)), (3, v50), (4, (Value.int IntKind.i64 x52))] a := hS
  have hM : Mem Nob w0 w [(true, ow 3 v50 (List.map (Value.int IntKind.i64) l51))] := hM
  unfold S_spec_ListOf_l2 at hF
  refine wp_seq_k fun K71 hK71 => ?_
  refine wp_seq_k fun K76 hK76 => ?_
  have hJ3 : ∀ (p78 : Bool) (a : Act) (w : World), Sl 24 [(0, (Value.int IntKind.i64 p0_set)), (3, v50), (4, (Value.int IntKind.i64 x52)), (11, (Value.bool p78))] a → Mem Nob w0 w [(true, ow 3 v50 (List.map (Value.int IntKind.i64) l51))] → S_spec_ListOf_j3 F p0_set l51 x52 p78 = some res2 → K76 a w := by
    intro p78 a w hS hM hF
    unfold S_spec_ListOf_j3 at hF
    refine hK76 _ _ ?_
    rcases ite_some hF with ⟨hc, hF⟩ | ⟨hc, hF⟩
    · refine cond_t hS rfl hc ?_
      refine wp_skip ?_
      refine hK71 _ _ ?_
      refine wp_seq_k fun K79 hK79 => ?_
      have hJ4 : ∀ (l84 : List Int) (v83 : Value) (a : Act) (w : World), Sl 24 [(0, (Value.int IntKind.i64 p0_set)), (3, v83), (4, (Value.int IntKind.i64 x52))] a → Mem Nob w0 w [(true, ow 3 v83 (List.map (Value.int IntKind.i64) l84))] → S_spec_ListOf_j4 F x52 l84 = some res2 → K79 a w := by
        intro l84 v83 a w hS hM hF
        unfold S_spec_ListOf_j4 at hF
        refine hK79 _ _ ?_
        refine wp_region_lit ?_
        refine st_val hS rfl rfl (by decide) (rv_move (hS.ev rfl)) fun a hS => ?_
        refine st_val hS rfl rfl (by decide) (rv_add (hS.ev rfl) (hS.ev rfl)) fun a hS => ?_
        refine st_val hS rfl rfl (by decide) (rv_assign (hS.ev rfl)) fun a hS => ?_
        refine wpList_nil ?_
        cases hF
        exact hN2 _ _ _ rfl ⟨v83, (hS.sub (sub_cons rfl (sub_cons rfl (sub_cons rfl sub_nil)))), (hM.pick [0] (by decide) rfl)⟩
      refine wp_block ?_
      refine wp_seq_k fun K85 hK85 => ?_
      refine wp_region_lit ?_
      refine st_val hS rfl rfl (by decide) (rv_move (hS.ev rfl)) fun a hS => ?_
      refine st_val hS rfl rfl (by decide) (rv_move (hS.ev rfl)) fun a hS => ?_
      obtain ⟨_, hx, hF⟩ := bind_some hF
      have hi0 := nnO_some hx
      refine st_val hS rfl rfl (by decide) (rv_shr (hS.ev rfl) (hS.ev rfl) hi0) fun a hS => ?_
      refine st_val hS rfl rfl (by decide) (rv_and (hS.ev rfl) (hS.ev rfl)) fun a hS => ?_
      refine st_val hS rfl rfl (by decide) (rv_eql (hS.ev rfl) (hS.ev rfl)) fun a hS => ?_
      refine wpList_nil ?_
      refine hK85 _ _ ?_
      rcases ite_some hF with ⟨hc, hF⟩ | ⟨hc, hF⟩
      · refine cond_t hS rfl hc ?_
        refine wp_region_lit ?_
        refine st_val hS rfl rfl (by decide) (rv_move (hS.ev rfl)) fun a hS => ?_
        refine st_val hS rfl rfl (by decide) (rv_move (hS.ev rfl)) fun a hS => ?_
        obtain ⟨v86, w, hr, hM⟩ := Mem.litE (f := (Value.int IntKind.i64)) (dst := some 21) (ty := _) (pos := _) (af := _) (gd := _) (ps := [(0, .tmp 20)]) ([x52] : List (Int)) i64_one hM hS Try.underlying37 ty_el_3 rfl rfl rfl rfl
        refine st_val hS rfl rfl (by decide) hr fun a hS => ?_
        obtain ⟨_, hx, hF⟩ := bind_some hF
        have hM := hM.pick [1, 0] (by decide) rfl
        obtain ⟨v87, w, hr, hM⟩ := Mem.appE (f := (Value.int IntKind.i64)) (S := _) (R := [(true, ow 3 v86 (List.map (Value.int IntKind.i64) ([x52] : List (Int))))]) (ρ := a.eval) (dst := some 22) (ty := _) (pos := _) (af := _) (gd := _) (x := .tmp 19) (y := .tmp 21) i64_one hM Try.underlying37 ty_el_3 rfl (by decide) (hS.ev rfl) (hS.ev rfl) (rd_of_ow (hM.get 1 rfl)) (catO_some hx)
        refine st_val hS rfl rfl (by decide) hr fun a hS => ?_
        refine st_val hS rfl rfl (by decide) (rv_assign (hS.ev rfl)) fun a hS => ?_
        refine wpList_nil ?_
        exact hJ4 (l51 ++ ([x52] : List (Int))) v87 _ _ (hS.sub (sub_cons rfl (sub_cons rfl (sub_cons rfl sub_nil)))) (hM.pick [0] (by decide) rfl) hF
      · refine cond_f hS rfl hc ?_
        refine wp_skip ?_
        exact hJ4 l51 v50 _ _ (hS.sub (sub_cons rfl (sub_cons rfl (sub_cons rfl sub_nil)))) (hM.pick [0] (by decide) rfl) hF
    · refine cond_f hS rfl hc ?_
      refine wp_exit ?_
      cases hF
      exact hJ1 l51 v50 _ _ (hS.sub (sub_cons rfl sub_nil)) (hM.pick [0] (by decide) rfl) (by have e := hX2 _ rfl; subst e; exact hF2)
  refine wp_region_lit ?_
  refine st_val hS rfl rfl (by decide) (rv_move (hS.ev rfl)) fun a hS => ?_
  refine st_val hS rfl rfl (by decide) (rv_lss (hS.ev rfl) (hS.ev rfl)) fun a hS => ?_
  refine st_val hS rfl rfl (by decide) (rv_move (hS.ev rfl)) fun a hS => ?_
  rcases ite_some hF with ⟨hc, hF⟩ | ⟨hc, hF⟩
  · have hS := hS.setb (t := 8) rfl hc
    refine st_val hS rfl rfl (by decide) (rv_move (hS.ev rfl)) fun a hS => ?_
    obtain ⟨r88, hr, hF⟩ := bind_some hF
    refine st_wp hS rfl (wp_call hS rfl rfl (by decide) fn_ok_24 rfl (c_spec_l3Fine F p0_set hr _) fun v w a hK hS => ?_)
    obtain ⟨rfl, hN⟩ := hK
    have hM := hM.fra hN.fr
    refine st_val hS rfl rfl (by decide) (rv_pick_t (hS.ev rfl) (hS.ev rfl)) fun a hS => ?_
    refine wpList_nil ?_
    exact hJ3 r88 _ _ (hS.sub (sub_cons rfl (sub_cons rfl (sub_cons rfl (sub_cons rfl sub_nil))))) (hM.pick [0] (by decide) rfl) hF
  · have hS := hS.setb (t := 8) rfl hc
    refine st_skip hS rfl rfl (by decide) fun a hS => ?_
    refine st_skip hS rfl rfl (by decide) fun a hS => ?_
    refine st_val hS rfl rfl (by decide) (rv_pick_f (hS.ev rfl) (hS.ev rfl)) fun a hS => ?_
    refine wpList_nil ?_
    exact hJ3 false _ _ (hS.sub (sub_cons rfl (sub_cons rfl (sub_cons rfl (sub_cons rfl sub_nil))))) (hM.pick [0] (by decide) rfl) hF


theorem c_spec_CountSet (F : Nat) (p0_set : Int) {r : Int} (hF : S_spec_CountSet F p0_set = some r) (w0 : World) :
    Calls Try.prog 17 [(Value.int IntKind.i64 p0_set)].toArray w0 (retPost fun v w' => v = (Value.int IntKind.i64 r) ∧ Mem Nob w0 w' []) := by
  have hM : Mem Nob w0 w0 [] := (Mem.nil w0)
  refine enter2 Try.func17 rfl rfl rfl fun Q a hQr hQn hQp hS => ?_
  have hS : Sl 6 [(0, (Value.int IntKind.i64 p0_set))] a := hS
  unfold S_spec_CountSet at hF
  refine wp_seq_k fun K1 hK1 => ?_
  refine wp_region_lit ?_
  refine st_val hS rfl rfl (by decide) (rv_assign (hS.ev rfl)) fun a hS => ?_
  refine wpList_nil ?_
  refine hK1 _ _ ?_
  refine wp_seq_k fun K2 hK2 => ?_
  refine wp_region_lit ?_
  refine st_val hS rfl rfl (by decide) (rv_move (hS.ev rfl)) fun a hS => ?_
  obtain ⟨r5, hr, hF⟩ := bind_some hF
  refine st_wp hS rfl (wp_call hS rfl rfl (by decide) fn_ok_22 rfl (c_spec_ListOf F p0_set hr _) fun v6 w a hK hS => ?_)
  have hN := hK
  have hM := hM.add hN rfl
  refine st_val hS rfl rfl (by decide) (rv_len_rowM Try.underlying37 (hS.ev rfl) (rd_of_ow (hM.get 0 rfl))) fun a hS => ?_
  refine st_val hS rfl rfl (by decide) (rv_assign (hS.ev rfl)) fun a hS => ?_
  refine wpList_nil ?_
  refine hK2 _ _ ?_
  refine wp_ret ?_
  cases hF
  exact hQr _ _ (r_1 hS rfl rfl ⟨rfl, hM.pick [] (by decide) rfl⟩)


theorem c_impl_has (F : Nat) (p0_set : Int) (p1_v : Int) {r : Bool} (hF : S_impl_has F p0_set p1_v = some r) (w0 : World) :
    Calls Try.prog 25 [(Value.int IntKind.i64 p0_set), (Value.int IntKind.i64 p1_v)].toArray w0 (retPost fun v w' => v = (Value.bool r) ∧ Mem Nob w0 w' []) := by
  have hM : Mem Nob w0 w0 [] := (Mem.nil w0)
  refine enter2 Try.func25 rfl rfl rfl fun Q a hQr hQn hQp hS => ?_
  have hS : Sl 10 [(0, (Value.int IntKind.i64 p0_set)), (1, (Value.int IntKind.i64 p1_v))] a := hS
  unfold S_impl_has at hF
  refine wp_seq_k fun K1 hK1 => ?_
  refine wp_region_lit ?_
  refine st_val hS rfl rfl (by decide) (rv_assign (hS.ev rfl)) fun a hS => ?_
  refine wpList_nil ?_
  refine hK1 _ _ ?_
  refine wp_seq_k fun K2 hK2 => ?_
  refine wp_region_lit ?_
  refine st_val hS rfl rfl (by decide) (rv_move (hS.ev rfl)) fun a hS => ?_
  refine st_val hS rfl rfl (by decide) (rv_move (hS.ev rfl)) fun a hS => ?_
  obtain ⟨_, hx, hF⟩ := bind_some hF
  have hi0 := nnO_some hx
  refine st_val hS rfl rfl (by decide) (rv_shr (hS.ev rfl) (hS.ev rfl) hi0) fun a hS => ?_
  refine st_val hS rfl rfl (by decide) (rv_and (hS.ev rfl) (hS.ev rfl)) fun a hS => ?_
  refine st_val hS rfl rfl (by decide) (rv_eql (hS.ev rfl) (hS.ev rfl)) fun a hS => ?_
  refine st_val hS rfl rfl (by decide) (rv_assign (hS.ev rfl)) fun a hS => ?_
  refine wpList_nil ?_
  refine hK2 _ _ ?_
  refine wp_ret ?_
  cases hF
  exact hQr _ _ (r_1 hS rfl rfl ⟨rfl, hM.pick [] (by decide) rfl⟩)


theorem c_impl_ListOf (F : Nat) (p0_set : Int) {r : (List (Int))} (hF : S_impl_ListOf F p0_set = some r) (w0 : World) :
    Calls Try.prog 23 [(Value.int IntKind.i64 p0_set)].toArray w0 (retPost fun v w' => Mem Nob w0 w' [(true, ow 3 v (List.map (Value.int IntKind.i64) r))]) := by
  have hM : Mem Nob w0 w0 [] := (Mem.nil w0)
  refine enter2 Try.func23 rfl rfl rfl fun Q a hQr hQn hQp hS => ?_
  have hS : Sl 22 [(0, (Value.int IntKind.i64 p0_set))] a := hS
  unfold S_impl_ListOf at hF
  refine wp_seq_k fun K1 hK1 => ?_
  refine wp_region_lit ?_
  refine st_val hS rfl rfl (by decide) (rv_assign (hS.ev rfl)) fun a hS => ?_
  refine wpList_nil ?_
  refine hK1 _ _ ?_
  refine wp_seq_k fun K2 hK2 => ?_
  refine wp_region_lit ?_
  obtain ⟨v4, w, hr, hM⟩ := Mem.litE (f := (Value.int IntKind.i64)) (dst := some 5) (ty := _) (pos := _) (af := _) (gd := _) (ps := []) ([] : List (Int)) i64_one hM hS Try.underlying37 ty_el_3 rfl rfl rfl rfl
  refine st_val hS rfl rfl (by decide) hr fun a hS => ?_
  refine st_val hS rfl rfl (by decide) (rv_assign (hS.ev rfl)) fun a hS => ?_
  refine wpList_nil ?_
  refine hK2 _ _ ?_
  refine wp_seq_k fun K5 hK5 => ?_
  refine wp_seq_k fun K10 hK10 => ?_
  refine wp_region_lit ?_
  refine st_val hS rfl rfl (by decide) (rv_move (hS.ev rfl)) fun a hS => ?_
  obtain ⟨r12, hr, hF⟩ := bind_some hF
  refine st_wp hS rfl (wp_call hS rfl rfl (by decide) fn_ok_21 rfl (c_impl_within F p0_set 0 127 hr _) fun v w a hK hS => ?_)
  obtain ⟨rfl, hN⟩ := hK
  have hM := hM.fra hN.fr
  refine st_val hS rfl rfl (by decide) (rv_not (hS.ev rfl)) fun a hS => ?_
  refine wpList_nil ?_
  refine hK10 _ _ ?_
  rcases ite_some hF with ⟨hc, hF⟩ | ⟨hc, hF⟩
  · refine cond_t hS rfl hc ?_
    refine wp_seq_k fun K13 hK13 => ?_
    refine wp_region_lit ?_
    refine st_val hS rfl rfl (by decide) (rv_move (hS.ev rfl)) fun a hS => ?_
    refine st_val hS rfl rfl (by decide) (rv_assign (hS.ev rfl)) fun a hS => ?_
    refine wpList_nil ?_
    refine hK13 _ _ ?_
    refine wp_ret ?_
    cases hF
    exact hQr _ _ (r_1 hS rfl rfl (hM.pick [0] (by decide) rfl))
  · refine cond_f hS rfl hc ?_
    refine wp_skip ?_
    refine hK5 _ _ ?_
    refine wp_seq_k fun K14 hK14 => ?_
    have hJ1 : ∀ (l54 : List Int) (v53 : Value) (a : Act) (w : World), Sl 22 [(3, v53)] a → Mem Nob w0 w [(true, ow 3 v53 (List.map (Value.int IntKind.i64) l54))] → S_impl_ListOf_j1 F l54 = some r → K14 a w := by
      intro l54 v53 a w hS hM hF
      unfold S_impl_ListOf_j1 at hF
      refine hK14 _ _ ?_
      refine wp_seq_k fun K55 hK55 => ?_
      refine wp_region_lit ?_
      refine st_val hS rfl rfl (by decide) (rv_move (hS.ev rfl)) fun a hS => ?_
      refine st_val hS rfl rfl (by decide) (rv_assign (hS.ev rfl)) fun a hS => ?_
      refine wpList_nil ?_
      refine hK55 _ _ ?_
      refine wp_ret ?_
      cases hF
      exact hQr _ _ (r_1 hS rfl rfl (hM.pick [0] (by decide) rfl))
    refine wp_seq_k fun K56 hK56 => ?_
    refine wp_region_lit ?_
    refine st_val hS rfl rfl (by decide) (rv_move (hS.ev rfl)) fun a hS => ?_
    refine wpList_nil ?_
    refine hK56 _ _ ?_
    refine wp_block ?_
    obtain ⟨lb2, hl2, hF2⟩ := bind_some hF
    refine wp_loop_sh (fun s => S_impl_ListOf_l2 F p0_set s.1 s.2) (fun s a w => ∃ (v57 : Value), Sl 22 [(0, (Value.int IntKind.i64 p0_set)), (3, v57), (10, (Value.int IntKind.i64 s.2))] a ∧ Mem Nob w0 w [(true, ow 3 v57 (List.map (Value.int IntKind.i64) s.1))]) hl2 ⟨v4, (hS.sub (sub_cons rfl (sub_cons rfl (sub_cons rfl sub_nil)))), (hM.pick [0] (by decide) rfl)⟩ ?_
    rintro K2 ⟨l58, x59⟩ a w res2 ⟨v57, hS, hM⟩ hF hN2 hX2
    have hF : S_impl_ListOf_l2 F p0_set l58 x59 = some res2 := hF
    have hS : Sl 22 [(0, (Value.int IntKind.i64 p0_set)), (3, v57), (10, (Value.int IntKind.i64 x59))] a := hS
    have hM : Mem Nob w0 w [(true, ow 3 v57 (List.map (Value.int IntKind.i64) l58))] := hM
    unfold S_impl_ListOf_l2 at hF
    refine wp_seq_k fun K77 hK77 => ?_
    refine wp_region_lit ?_
    refine st_val hS rfl rfl (by decide) (rv_lss (hS.ev rfl) (hS.ev rfl)) fun a hS => ?_
    refine wpList_nil ?_
    refine hK77 _ _ ?_
    refine wp_seq_k fun K78 hK78 => ?_
    rcases ite_some hF with ⟨hc, hF⟩ | ⟨hc, hF⟩
    · refine cond_t hS rfl hc ?_
      refine wp_skip ?_
      refine hK78 _ _ ?_
      refine wp_seq_k fun K79 hK79 => ?_
      have hJ3 : ∀ (l87 : List Int) (v86 : Value) (a : Act) (w : World), Sl 22 [(0, (Value.int IntKind.i64 p0_set)), (3, v86), (10, (Value.int IntKind.i64 x59))] a → Mem Nob w0 w [(true, ow 3 v86 (List.map (Value.int IntKind.i64) l87))] → S_impl_ListOf_j3 F x59 l87 = some res2 → K79 a w := by
        intro l87 v86 a w hS hM hF
        unfold S_impl_ListOf_j3 at hF
        refine hK79 _ _ ?_
        refine wp_region_lit ?_
        refine st_val hS rfl rfl (by decide) (rv_add (hS.ev rfl) (hS.ev rfl)) fun a hS => ?_
        refine st_val hS rfl rfl (by decide) (rv_move (hS.ev rfl)) fun a hS => ?_
        refine wpList_nil ?_
        cases hF
        exact hN2 _ _ _ rfl ⟨v86, (hS.sub (sub_cons rfl (sub_cons rfl (sub_cons rfl sub_nil)))), (hM.pick [0] (by decide) rfl)⟩
      refine wp_block ?_
      refine wp_seq_k fun K88 hK88 => ?_
      refine wp_region_lit ?_
      refine st_val hS rfl rfl (by decide) (rv_move (hS.ev rfl)) fun a hS => ?_
      refine st_val hS rfl rfl (by decide) (rv_assign (hS.ev rfl)) fun a hS => ?_
      refine wpList_nil ?_
      refine hK88 _ _ ?_
      refine wp_seq_k fun K89 hK89 => ?_
      refine wp_region_lit ?_
      refine st_val hS rfl rfl (by decide) (rv_move (hS.ev rfl)) fun a hS => ?_
      refine st_val hS rfl rfl (by decide) (rv_move (hS.ev rfl)) fun a hS => ?_
      obtain ⟨r91, hr, hF⟩ := bind_some hF
      refine st_wp hS rfl (wp_call hS rfl rfl (by decide) fn_ok_25 rfl (c_impl_has F p0_set x59 hr _) fun v w a hK hS => ?_)
      obtain ⟨rfl, hN⟩ := hK
      have hM := hM.fra hN.fr
      refine wpList_nil ?_
      refine hK89 _ _ ?_
      rcases ite_some hF with ⟨hc, hF⟩ | ⟨hc, hF⟩
      · refine cond_t hS rfl hc ?_
        refine wp_region_lit ?_
        refine st_val hS rfl rfl (by decide) (rv_move (hS.ev rfl)) fun a hS => ?_
        refine st_val hS rfl rfl (by decide) (rv_move (hS.ev rfl)) fun a hS => ?_
        obtain ⟨v92, w, hr, hM⟩ := Mem.litE (f := (Value.int IntKind.i64)) (dst := some 18) (ty := _) (pos := _) (af := _) (gd := _) (ps := [(0, .tmp 17)]) ([x59] : List (Int)) i64_one hM hS Try.underlying37 ty_el_3 rfl rfl rfl rfl
        refine st_val hS rfl rfl (by decide) hr fun a hS => ?_
        obtain ⟨_, hx, hF⟩ := bind_some hF
        have hM := hM.pick [1, 0] (by decide) rfl
        obtain ⟨v93, w, hr, hM⟩ := Mem.appE (f := (Value.int IntKind.i64)) (S := _) (R := [(true, ow 3 v92 (List.map (Value.int IntKind.i64) ([x59] : List (Int))))]) (ρ := a.eval) (dst := some 19) (ty := _) (pos := _) (af := _) (gd := _) (x := .tmp 16) (y := .tmp 18) i64_one hM Try.underlying37 ty_el_3 rfl (by decide) (hS.ev rfl) (hS.ev rfl) (rd_of_ow (hM.get 1 rfl)) (catO_some hx)
        refine st_val hS rfl rfl (by decide) hr fun a hS => ?_
        refine st_val hS rfl rfl (by decide) (rv_assign (hS.ev rfl)) fun a hS => ?_
        refine wpList_nil ?_
        exact hJ3 (l58 ++ ([x59] : List (Int))) v93 _ _ (hS.sub (sub_cons rfl (sub_cons rfl (sub_cons rfl sub_nil)))) (hM.pick [0] (by decide) rfl) hF
      · refine cond_f hS rfl hc ?_
        refine wp_skip ?_
        exact hJ3 l58 v57 _ _ (hS.sub (sub_cons rfl (sub_cons rfl (sub_cons rfl sub_nil)))) (hM.pick [0] (by decide) rfl) hF
    · refine cond_f hS rfl hc ?_
      refine wp_exit ?_
      cases hF
      exact hJ1 l58 v57 _ _ (hS.sub (sub_cons rfl sub_nil)) (hM.pick [0] (by decide) rfl) (by have e := hX2 _ rfl; subst e; exact hF2)


theorem c_impl_CountSet (F : Nat) (p0_set : Int) {r : Int} (hF : S_impl_CountSet F p0_set = some r) (w0 : World) :
    Calls Try.prog 18 [(Value.int IntKind.i64 p0_set)].toArray w0 (retPost fun v w' => v = (Value.int IntKind.i64 r) ∧ Mem Nob w0 w' []) := by
  have hM : Mem Nob w0 w0 [] := (Mem.nil w0)
  refine enter2 Try.func18 rfl rfl rfl fun Q a hQr hQn hQp hS => ?_
  have hS : Sl 6 [(0, (Value.int IntKind.i64 p0_set))] a := hS
  unfold S_impl_CountSet at hF
  refine wp_seq_k fun K1 hK1 => ?_
  refine wp_region_lit ?_
  refine st_val hS rfl rfl (by decide) (rv_assign (hS.ev rfl)) fun a hS => ?_
  refine wpList_nil ?_
  refine hK1 _ _ ?_
  refine wp_seq_k fun K2 hK2 => ?_
  refine wp_region_lit ?_
  refine st_val hS rfl rfl (by decide) (rv_move (hS.ev rfl)) fun a hS => ?_
  obtain ⟨r5, hr, hF⟩ := bind_some hF
  refine st_wp hS rfl (wp_call hS rfl rfl (by decide) fn_ok_23 rfl (c_impl_ListOf F p0_set hr _) fun v6 w a hK hS => ?_)
  have hN := hK
  have hM := hM.add hN rfl
  refine st_val hS rfl rfl (by decide) (rv_len_rowM Try.underlying37 (hS.ev rfl) (rd_of_ow (hM.get 0 rfl))) fun a hS => ?_
  refine st_val hS rfl rfl (by decide) (rv_assign (hS.ev rfl)) fun a hS => ?_
  refine wpList_nil ?_
  refine hK2 _ _ ?_
  refine wp_ret ?_
  cases hF
  exact hQr _ _ (r_1 hS rfl rfl ⟨rfl, hM.pick [] (by decide) rfl⟩)


theorem c_laws_FnExactCountSet (F : Nat) (p0_aSet : Int) {r : Bool} (hF : S_laws_FnExactCountSet F p0_aSet = some r) (w0 : World) :
    Calls Try.prog 8 [(Value.int IntKind.i64 p0_aSet)].toArray w0 (retPost fun v w' => v = (Value.bool r) ∧ Mem Nob w0 w' []) := by
  have hM : Mem Nob w0 w0 [] := (Mem.nil w0)
  refine enter2 Try.func8 rfl rfl rfl fun Q a hQr hQn hQp hS => ?_
  have hS : Sl 12 [(0, (Value.int IntKind.i64 p0_aSet))] a := hS
  unfold S_laws_FnExactCountSet at hF
  refine wp_seq_k fun K1 hK1 => ?_
  refine wp_region_lit ?_
  refine st_val hS rfl rfl (by decide) (rv_assign (hS.ev rfl)) fun a hS => ?_
  refine wpList_nil ?_
  refine hK1 _ _ ?_
  refine wp_seq_k fun K2 hK2 => ?_
  refine wp_region_lit ?_
  refine st_val hS rfl rfl (by decide) (rv_move (hS.ev rfl)) fun a hS => ?_
  obtain ⟨r4, hr, hF⟩ := bind_some hF
  refine st_wp hS rfl (wp_call hS rfl rfl (by decide) fn_ok_17 rfl (c_spec_CountSet F p0_aSet hr _) fun v w a hK hS => ?_)
  obtain ⟨rfl, hN⟩ := hK
  have hM := hM.fra hN.fr
  refine st_val hS rfl rfl (by decide) (rv_assign (hS.ev rfl)) fun a hS => ?_
  refine wpList_nil ?_
  refine hK2 _ _ ?_
  refine wp_seq_k fun K5 hK5 => ?_
  refine wp_region_lit ?_
  refine st_val hS rfl rfl (by decide) (rv_move (hS.ev rfl)) fun a hS => ?_
  obtain ⟨r7, hr, hF⟩ := bind_some hF
  refine st_wp hS rfl (wp_call hS rfl rfl (by decide) fn_ok_18 rfl (c_impl_CountSet F p0_aSet hr _) fun v w a hK hS => ?_)
  obtain ⟨rfl, hN⟩ := hK
  have hM := hM.fra hN.fr
  refine st_val hS rfl rfl (by decide) (rv_assign (hS.ev rfl)) fun a hS => ?_
  refine wpList_nil ?_
  refine hK5 _ _ ?_
  refine wp_seq_k fun K8 hK8 => ?_
  refine wp_seq_k fun K11 hK11 => ?_
  refine wp_region_lit ?_
  refine st_val hS rfl rfl (by decide) (rv_move (hS.ev rfl)) fun a hS => ?_
  refine st_val hS rfl rfl (by decide) (rv_move (hS.ev rfl)) fun a hS => ?_
  refine st_val hS rfl rfl (by decide) (rv_neq (hS.ev rfl) (hS.ev rfl)) fun a hS => ?_
  refine wpList_nil ?_
  refine hK11 _ _ ?_
  rcases ite_some hF with ⟨hc, hF⟩ | ⟨hc, hF⟩
  · refine cond_t hS rfl hc ?_
    refine wp_seq_k fun K12 hK12 => ?_
    refine wp_region_lit ?_
    refine st_val hS rfl rfl (by decide) (rv_assign (hS.ev rfl)) fun a hS => ?_
    refine wpList_nil ?_
    refine hK12 _ _ ?_
    refine wp_ret ?_
    cases hF
    exact hQr _ _ (r_1 hS rfl rfl ⟨rfl, hM.pick [] (by decide) rfl⟩)
  · refine cond_f hS rfl hc ?_
    refine wp_skip ?_
    refine hK8 _ _ ?_
    refine wp_seq_k fun K13 hK13 => ?_
    refine wp_region_lit ?_
    refine st_val hS rfl rfl (by decide) (rv_assign (hS.ev rfl)) fun a hS => ?_
    refine wpList_nil ?_
    refine hK13 _ _ ?_
    refine wp_ret ?_
    cases hF
    exact hQr _ _ (r_1 hS rfl rfl ⟨rfl, hM.pick [] (by decide) rfl⟩)


end Go.Proofs.Ytmlgjhgicoggdaa
