/- Proved here: that each Go function does what its shallow function says -/
import Derived.Test.YtblbimlobacciaaSh
import Derived.Test.YtblbimlobacciaaTy
import Derived.Test.YtblbimlobacciaaK13
namespace Go.Proofs.Ytblbimlobacciaa
open Go Go.RowKit
set_option linter.unusedVariables false
set_option linter.unusedSimpArgs false
set_option maxRecDepth 100000
set_option maxHeartbeats 40000000

open Go.IntKind (i64)
open Go.Value (int)
theorem c_laws_eqIntS (F : Nat) (p0_a : List Int) (p1_b : List Int) (p0_av : Value) (p1_bv : Value) {r : Bool} (hF : S_laws_eqIntS F p0_a p1_b = some r) (w0 : World) (h0 : RdRow w0 p0_av (List.map (int i64) p0_a)) (h1 : RdRow w0 p1_bv (List.map (int i64) p1_b)) :
    Calls Try.prog 11 [p0_av, p1_bv].toArray w0 (retPost fun v w' => v = (Value.bool r) ∧ Mem Nob w0 w' []) := by
 have hM : Mem Nob w0 w0 [(false, rd p0_av (List.map (int i64) p0_a)), (false, rd p1_bv (List.map (int i64) p1_b))] := (Mem.rcons (Mem.rcons (Mem.nil w0) h1 (by simp)) h0 (by simp))
 refine enter2 Try.func11 rfl rfl rfl fun Q a hQr hQn hQp hS => ?_
 have hS : Sl 26 [(0, p0_av), (1, p1_bv)] a := hS
 unfold S_laws_eqIntS at hF
 refine wp_seq_k fun K1 hK1 => ?_
 refine wp_region_lit ?_
 refine st_val hS rfl rfl (by decide) (rv_assign (hS.ev rfl)) fun a hS => ?_
 refine wpList_nil ?_
 refine hK1 _ _ ?_
 refine wp_seq_k fun K2 hK2 => ?_
 refine wp_seq_k fun K5 hK5 => ?_
 refine wp_region_lit ?_
 refine st_val hS rfl rfl (by decide) (rv_move (hS.ev rfl)) fun a hS => ?_
 refine st_val hS rfl rfl (by decide) (rv_len_rowM Try.underlying22 (hS.ev rfl) (hM.get 0 rfl)) fun a hS => ?_
 refine st_val hS rfl rfl (by decide) (rv_move (hS.ev rfl)) fun a hS => ?_
 refine st_val hS rfl rfl (by decide) (rv_len_rowM Try.underlying22 (hS.ev rfl) (hM.get 1 rfl)) fun a hS => ?_
 refine st_val hS rfl rfl (by decide) (rv_neq (hS.ev rfl) (hS.ev rfl)) fun a hS => ?_
 refine wpList_nil ?_
 refine hK5 _ _ ?_
 rcases ite_some hF with ⟨hc, hF⟩ | ⟨hc, hF⟩
 ·refine cond_t hS rfl hc ?_
  refine wp_seq_k fun K6 hK6 => ?_
  refine wp_region_lit ?_
  refine st_val hS rfl rfl (by decide) (rv_assign (hS.ev rfl)) fun a hS => ?_
  refine wpList_nil ?_
  refine hK6 _ _ ?_
  refine wp_ret ?_
  cases hF
  exact hQr _ _ (r_1 hS rfl rfl ⟨rfl, hM.pk [] (by decide) pn⟩)
 ·refine cond_f hS rfl hc ?_
  refine wp_skip ?_
  refine hK2 _ _ ?_
  refine wp_seq_k fun K7 hK7 => ?_
  have hJ1 : ∀ (a : Act) (w : World), Sl 26 [] a → Mem Nob w0 w [] → S_laws_eqIntS_j1 F = some r → K7 a w := by
   intro a w hS hM hF
   unfold S_laws_eqIntS_j1 at hF
   refine hK7 _ _ ?_
   refine wp_seq_k fun K42 hK42 => ?_
   refine wp_region_lit ?_
   refine st_val hS rfl rfl (by decide) (rv_assign (hS.ev rfl)) fun a hS => ?_
   refine wpList_nil ?_
   refine hK42 _ _ ?_
   refine wp_ret ?_
   cases hF
   exact hQr _ _ (r_1 hS rfl rfl ⟨rfl, hM.pk [] (by decide) pn⟩)
  refine wp_seq_k fun K43 hK43 => ?_
  refine wp_region_lit ?_
  refine st_val hS rfl rfl (by decide) (rv_assign (hS.ev rfl)) fun a hS => ?_
  refine wpList_nil ?_
  refine hK43 _ _ ?_
  refine wp_block ?_
  obtain ⟨lb2, hl2, hF2⟩ := bind_some hF
  refine wp_loop_sh (fun s => S_laws_eqIntS_l2 F p0_a p1_b s) (fun s a w => Sl 26 [(0, p0_av), (1, p1_bv), (5, (int i64 s))] a ∧ Mem Nob w0 w [(false, rd p0_av (List.map (int i64) p0_a)), (false, rd p1_bv (List.map (int i64) p1_b))]) hl2 ⟨(hS.sub (sub_cons rfl (sub_cons rfl (sub_cons rfl sub_nil)))), (hM.pk [0, 1] (by decide) (pc rfl (pc rfl pn)))⟩ ?_
  rintro K2 x44 a w res2 ⟨hS, hM⟩ hF hN2 hX2
  have hF : S_laws_eqIntS_l2 F p0_a p1_b x44 = some res2 := hF
  have hS : Sl 26 [(0, p0_av), (1, p1_bv), (5, (int i64 x44))] a := hS
  have hM : Mem Nob w0 w [(false, rd p0_av (List.map (int i64) p0_a)), (false, rd p1_bv (List.map (int i64) p1_b))] := hM
  unfold S_laws_eqIntS_l2 at hF
  refine wp_seq_k fun K61 hK61 => ?_
  refine wp_seq_k fun K63 hK63 => ?_
  refine wp_region_lit ?_
  refine st_val hS rfl rfl (by decide) (rv_move (hS.ev rfl)) fun a hS => ?_
  refine st_val hS rfl rfl (by decide) (rv_move (hS.ev rfl)) fun a hS => ?_
  refine st_val hS rfl rfl (by decide) (rv_len_rowM Try.underlying22 (hS.ev rfl) (hM.get 0 rfl)) fun a hS => ?_
  refine st_val hS rfl rfl (by decide) (rv_lss (hS.ev rfl) (hS.ev rfl)) fun a hS => ?_
  refine wpList_nil ?_
  refine hK63 _ _ ?_
  rcases ite_some hF with ⟨hc, hF⟩ | ⟨hc, hF⟩
  ·refine cond_t hS rfl hc ?_
   refine wp_skip ?_
   refine hK61 _ _ ?_
   refine wp_seq_k fun K64 hK64 => ?_
   refine wp_block ?_
   refine wp_seq_k fun K71 hK71 => ?_
   refine an_startB 9 Nob ty_mixed (by kernel_rfl) fun w hf => ?_
   have hM := hM.fra hf
   have hB := hM
   have hM := hB.reg0
   try dsimp only [ro] at hM
   refine tkB hS 0 1 (by kernel_rfl) rfl rfl rfl hQp rfl (fun w' hC' => (rv_move (hS.ev rfl))) hM.fr fun a hS => ?_
   refine tkB hS 1 3 (by kernel_rfl) rfl rfl rfl hQp rfl (fun w' hC' => (rv_move (hS.ev rfl))) hM.fr fun a hS => ?_
   obtain ⟨x74, hx, hF⟩ := bind_some hF
   obtain ⟨hi0, hi1, hex74⟩ := idxL_some hx
   refine tkB hS 2 7 (by kernel_rfl) rfl rfl rfl hQp rfl (fun w' hC' => (rv_indexAddr Try.underlying22 ty_el_3 (hS.ev rfl) (hS.ev rfl) (hM.get 0 rfl) hi0 (map_len hi1))) hM.fr fun a hS => ?_
   refine tkB hS 3 15 (by kernel_rfl) rfl rfl rfl hQp rfl (fun w' hC' => (rv_load_el (hS.ev rfl) ty_ag_3 ((hB.fra hC').get 0 rfl) (mget hex74))) hM.fr fun a hS => ?_
   refine tkB hS 4 31 (by kernel_rfl) rfl rfl rfl hQp rfl (fun w' hC' => (rv_move (hS.ev rfl))) hM.fr fun a hS => ?_
   refine tkB hS 5 63 (by kernel_rfl) rfl rfl rfl hQp rfl (fun w' hC' => (rv_move (hS.ev rfl))) hM.fr fun a hS => ?_
   obtain ⟨x75, hx, hF⟩ := bind_some hF
   obtain ⟨hi0, hi1, hex75⟩ := idxL_some hx
   refine tkB hS 6 127 (by kernel_rfl) rfl rfl rfl hQp rfl (fun w' hC' => (rv_indexAddr Try.underlying22 ty_el_3 (hS.ev rfl) (hS.ev rfl) (hM.get 1 rfl) hi0 (map_len hi1))) hM.fr fun a hS => ?_
   refine tkB hS 7 255 (by kernel_rfl) rfl rfl rfl hQp rfl (fun w' hC' => (rv_load_el (hS.ev rfl) ty_ag_3 ((hB.fra hC').get 1 rfl) (mget hex75))) hM.fr fun a hS => ?_
   refine tkB hS 8 511 (by kernel_rfl) rfl rfl rfl hQp rfl (fun w' hC' => (rv_neq (hS.ev rfl) (hS.ev rfl))) hM.fr fun a hS => ?_
   refine an_done (by kernel_rfl) ?_
   have hN := hM.pk [] (by decide) pn
   have hM := Mem.callo0 hB hN rfl
   refine hK71 _ _ ?_
   have hS : Sl 26 [(0, p0_av), (1, p1_bv), (5, (int i64 x44)), (25, (Value.bool (x74 != x75)))] a := hS.sub (sub_cons rfl (sub_cons rfl (sub_cons rfl (sub_cons rfl sub_nil))))
   rcases ite_some hF with ⟨hc, hF⟩ | ⟨hc, hF⟩
   ·refine cond_t hS rfl hc ?_
    refine wp_seq_k fun K76 hK76 => ?_
    refine wp_region_lit ?_
    refine st_val hS rfl rfl (by decide) (rv_assign (hS.ev rfl)) fun a hS => ?_
    refine wpList_nil ?_
    refine hK76 _ _ ?_
    refine wp_ret ?_
    cases hF
    have e := hX2 _ rfl
    subst e
    have hF := hF2
    cases hF
    exact hQr _ _ (r_1 hS rfl rfl ⟨rfl, hM.pk [] (by decide) pn⟩)
   ·refine cond_f hS rfl hc ?_
    refine wp_skip ?_
    refine hK64 _ _ ?_
    refine wp_region_lit ?_
    refine st_val hS rfl rfl (by decide) (rv_move (hS.ev rfl)) fun a hS => ?_
    refine st_val hS rfl rfl (by decide) (rv_add (hS.ev rfl) (hS.ev rfl)) fun a hS => ?_
    refine st_val hS rfl rfl (by decide) (rv_assign (hS.ev rfl)) fun a hS => ?_
    refine wpList_nil ?_
    cases hF
    exact hN2 _ _ _ rfl ⟨(hS.sub (sub_cons rfl (sub_cons rfl (sub_cons rfl sub_nil)))), (hM.pk [0, 1] (by decide) (pc rfl (pc rfl pn)))⟩
  ·refine cond_f hS rfl hc ?_
   refine wp_exit ?_
   cases hF
   exact hJ1 _ _ (hS.sub sub_nil) (hM.pk [] (by decide) pn) (by have e := hX2 _ rfl; subst e; exact hF2)


theorem c_laws_eqGraph (F : Nat) (p0_a_Size : Int) (p0_a_Rows : List Int) (p1_b_Size : Int) (p1_b_Rows : List Int) (p0_a_Rowsv : Value) (p1_b_Rowsv : Value) {r : Bool} (hF : S_laws_eqGraph F p0_a_Size p0_a_Rows p1_b_Size p1_b_Rows = some r) (w0 : World) (h0 : RdRow w0 p0_a_Rowsv (List.map (int i64) p0_a_Rows)) (h1 : RdRow w0 p1_b_Rowsv (List.map (int i64) p1_b_Rows)) :
    Calls Try.prog 10 [(Value.agg #[(int i64 p0_a_Size), p0_a_Rowsv]), (Value.agg #[(int i64 p1_b_Size), p1_b_Rowsv])].toArray w0 (retPost fun v w' => v = (Value.bool r) ∧ Mem Nob w0 w' []) := by
 have hM : Mem Nob w0 w0 [(false, rd p0_a_Rowsv (List.map (int i64) p0_a_Rows)), (false, rd p1_b_Rowsv (List.map (int i64) p1_b_Rows))] := (Mem.rcons (Mem.rcons (Mem.nil w0) h1 (by simp)) h0 (by simp))
 refine enter2 Try.func10 rfl rfl rfl fun Q a hQr hQn hQp hS => ?_
 have hS : Sl 16 [(0, (Value.agg #[(int i64 p0_a_Size), p0_a_Rowsv])), (1, (Value.agg #[(int i64 p1_b_Size), p1_b_Rowsv]))] a := hS
 unfold S_laws_eqGraph at hF
 refine wp_seq_k fun K1 hK1 => ?_
 refine wp_region_lit ?_
 obtain ⟨b4, w, hr, hM⟩ := hM.boxE (ρ := a.eval) (dst := some 2) (ty := _) (pos := _) (af := _) (gd := _) (x := .tmp 0) (T := 29) [(int i64 p0_a_Size), p0_a_Rowsv] (hS.ev rfl) rfl
 refine st_val hS rfl rfl (by decide) hr fun a hS => ?_
 obtain ⟨b5, w, hr, hM⟩ := hM.boxE (ρ := a.eval) (dst := some 3) (ty := _) (pos := _) (af := _) (gd := _) (x := .tmp 1) (T := 29) [(int i64 p1_b_Size), p1_b_Rowsv] (hS.ev rfl) rfl
 refine st_val hS rfl rfl (by decide) hr fun a hS => ?_
 refine st_val hS rfl rfl (by decide) (rv_assign (hS.ev rfl)) fun a hS => ?_
 refine wpList_nil ?_
 refine hK1 _ _ ?_
 refine wp_seq_k fun K6 hK6 => ?_
 refine wp_seq_k fun K9 hK9 => ?_
 refine wp_region_lit ?_
 refine st_val hS rfl rfl (by decide) (rv_fieldAddr ty_fd_29_0 (hS.ev rfl)) fun a hS => ?_
 refine st_val hS rfl rfl (by decide) (rv_load_bx (hS.ev rfl) ty_ag_3 (hM.get 1 rfl) rfl) fun a hS => ?_
 refine st_val hS rfl rfl (by decide) (rv_fieldAddr ty_fd_29_0 (hS.ev rfl)) fun a hS => ?_
 refine st_val hS rfl rfl (by decide) (rv_load_bx (hS.ev rfl) ty_ag_3 (hM.get 0 rfl) rfl) fun a hS => ?_
 refine st_val hS rfl rfl (by decide) (rv_neq (hS.ev rfl) (hS.ev rfl)) fun a hS => ?_
 refine wpList_nil ?_
 refine hK9 _ _ ?_
 rcases ite_some hF with ⟨hc, hF⟩ | ⟨hc, hF⟩
 ·refine cond_t hS rfl hc ?_
  refine wp_seq_k fun K10 hK10 => ?_
  refine wp_region_lit ?_
  refine st_val hS rfl rfl (by decide) (rv_assign (hS.ev rfl)) fun a hS => ?_
  refine wpList_nil ?_
  refine hK10 _ _ ?_
  have hS : Sl 16 [(4, (Value.bool false))] a := hS.sub (sub_cons rfl sub_nil)
  have hM := hM.pk [] (by decide) pn
  refine wp_ret ?_
  cases hF
  exact hQr _ _ (r_1 hS rfl rfl ⟨rfl, hM.pk [] (by decide) pn⟩)
 ·refine cond_f hS rfl hc ?_
  refine wp_skip ?_
  refine hK6 _ _ ?_
  have hS : Sl 16 [(2, (fdp b4 0)), (3, (fdp b5 0))] a := hS.sub (sub_cons rfl (sub_cons rfl sub_nil))
  refine wp_seq_k fun K11 hK11 => ?_
  refine wp_seq_k fun K16 hK16 => ?_
  refine wp_region_lit ?_
  refine st_val hS rfl rfl (by decide) (rv_fieldAddr ty_fd_29_1 (hS.ev rfl)) fun a hS => ?_
  refine st_val hS rfl rfl (by decide) (rv_load_bx (hS.ev rfl) ty_ag_22 (hM.get 1 rfl) rfl) fun a hS => ?_
  refine st_val hS rfl rfl (by decide) (rv_fieldAddr ty_fd_29_1 (hS.ev rfl)) fun a hS => ?_
  refine st_val hS rfl rfl (by decide) (rv_load_bx (hS.ev rfl) ty_ag_22 (hM.get 0 rfl) rfl) fun a hS => ?_
  obtain ⟨r18, hr, hF⟩ := bind_some hF
  refine st_wp hS rfl (wp_call hS rfl rfl (by decide) fn_ok_11 rfl (c_laws_eqIntS F p0_a_Rows p1_b_Rows p0_a_Rowsv p1_b_Rowsv hr _ (hM.get 2 rfl) (hM.get 3 rfl)) fun v w a hK hS => ?_)
  obtain ⟨rfl, hN⟩ := hK
  have hM := hM.fra hN.fr
  refine st_val hS rfl rfl (by decide) (rv_not (hS.ev rfl)) fun a hS => ?_
  refine wpList_nil ?_
  refine hK16 _ _ ?_
  have hS : Sl 16 [(15, (Value.bool (!r18)))] a := hS.sub (sub_cons rfl sub_nil)
  have hM := hM.pk [] (by decide) pn
  rcases ite_some hF with ⟨hc, hF⟩ | ⟨hc, hF⟩
  ·refine cond_t hS rfl hc ?_
   refine wp_seq_k fun K19 hK19 => ?_
   refine wp_region_lit ?_
   refine st_val hS rfl rfl (by decide) (rv_assign (hS.ev rfl)) fun a hS => ?_
   refine wpList_nil ?_
   refine hK19 _ _ ?_
   refine wp_ret ?_
   cases hF
   exact hQr _ _ (r_1 hS rfl rfl ⟨rfl, hM.pk [] (by decide) pn⟩)
  ·refine cond_f hS rfl hc ?_
   refine wp_skip ?_
   refine hK11 _ _ ?_
   refine wp_seq_k fun K20 hK20 => ?_
   refine wp_region_lit ?_
   refine st_val hS rfl rfl (by decide) (rv_assign (hS.ev rfl)) fun a hS => ?_
   refine wpList_nil ?_
   refine hK20 _ _ ?_
   refine wp_ret ?_
   cases hF
   exact hQr _ _ (r_1 hS rfl rfl ⟨rfl, hM.pk [] (by decide) pn⟩)


theorem c_laws_markIntS (F : Nat) (p0_a : List Int) (p1_k : Int) (p0_av : Value) {r : Int × (List (Int))} (hF : S_laws_markIntS F p0_a p1_k = some r) (w0 : World) (hM : Mem (feet [(true, ow 3 p0_av (List.map (int i64) p0_a))]) w0 w0 [(true, ow 3 p0_av (List.map (int i64) p0_a))]) :
    Calls Try.prog 13 [p0_av, (int i64 p1_k)].toArray w0 (retPost fun v w' => v = (int i64 r.1) ∧ Mem (feet [(true, ow 3 p0_av (List.map (int i64) p0_a))]) w0 w' [(true, ow 3 p0_av (List.map (int i64) r.2))]) := by
 refine enter2 Try.func13 rfl rfl rfl fun Q a hQr hQn hQp hS => ?_
 have hS : Sl 19 [(0, p0_av), (1, (int i64 p1_k))] a := hS
 unfold S_laws_markIntS at hF
 refine wp_seq_k fun K1 hK1 => ?_
 refine wp_region_lit ?_
 refine st_val hS rfl rfl (by decide) (rv_assign (hS.ev rfl)) fun a hS => ?_
 refine wpList_nil ?_
 refine hK1 _ _ ?_
 refine wp_seq_k fun K2 hK2 => ?_
 have hJ1 : ∀ (x39 : Int) (l40 : List Int) (a : Act) (w : World), Sl 19 [(1, (int i64 x39))] a → Mem (feet [(true, ow 3 p0_av (List.map (int i64) p0_a))]) w0 w [(true, ow 3 p0_av (List.map (int i64) l40))] → S_laws_markIntS_j1 F x39 l40 = some r → K2 a w := by
  intro x39 l40 a w hS hM hF
  unfold S_laws_markIntS_j1 at hF
  refine hK2 _ _ ?_
  refine wp_seq_k fun K41 hK41 => ?_
  refine wp_region_lit ?_
  refine st_val hS rfl rfl (by decide) (rv_move (hS.ev rfl)) fun a hS => ?_
  refine st_val hS rfl rfl (by decide) (rv_assign (hS.ev rfl)) fun a hS => ?_
  refine wpList_nil ?_
  refine hK41 _ _ ?_
  refine wp_ret ?_
  cases hF
  exact hQr _ _ (r_1 hS rfl rfl ⟨rfl, hM.pk [0] (by decide) (pc rfl pn)⟩)
 refine wp_seq_k fun K42 hK42 => ?_
 refine wp_region_lit ?_
 refine st_val hS rfl rfl (by decide) (rv_assign (hS.ev rfl)) fun a hS => ?_
 refine wpList_nil ?_
 refine hK42 _ _ ?_
 refine wp_block ?_
 obtain ⟨lb2, hl2, hF2⟩ := bind_some hF
 refine wp_loop_sh (fun s => S_laws_markIntS_l2 F s.1 s.2.1 s.2.2) (fun s a w => Sl 19 [(0, p0_av), (1, (int i64 s.2.1)), (5, (int i64 s.2.2))] a ∧ Mem (feet [(true, ow 3 p0_av (List.map (int i64) p0_a))]) w0 w [(true, ow 3 p0_av (List.map (int i64) s.1))]) hl2 ⟨(hS.sub (sub_cons rfl (sub_cons rfl (sub_cons rfl sub_nil)))), (hM.pk [0] (by decide) (pc rfl pn))⟩ ?_
 rintro K2 ⟨l55, x56, x57⟩ a w res2 ⟨hS, hM⟩ hF hN2 hX2
 have hF : S_laws_markIntS_l2 F l55 x56 x57 = some res2 := hF
 have hS : Sl 19 [(0, p0_av), (1, (int i64 x56)), (5, (int i64 x57))] a := hS
 have hM : Mem (feet [(true, ow 3 p0_av (List.map (int i64) p0_a))]) w0 w [(true, ow 3 p0_av (List.map (int i64) l55))] := hM
 unfold S_laws_markIntS_l2 at hF
 refine wp_seq_k fun K68 hK68 => ?_
 refine wp_seq_k fun K70 hK70 => ?_
 refine wp_region_lit ?_
 refine st_val hS rfl rfl (by decide) (rv_move (hS.ev rfl)) fun a hS => ?_
 refine st_val hS rfl rfl (by decide) (rv_move (hS.ev rfl)) fun a hS => ?_
 refine st_val hS rfl rfl (by decide) (rv_len_rowM Try.underlying22 (hS.ev rfl) (rd_of_ow (hM.get 0 rfl))) fun a hS => ?_
 refine st_val hS rfl rfl (by decide) (rv_lss (hS.ev rfl) (hS.ev rfl)) fun a hS => ?_
 refine wpList_nil ?_
 refine hK70 _ _ ?_
 rcases ite_some hF with ⟨hc, hF⟩ | ⟨hc, hF⟩
 ·refine cond_t hS rfl hc ?_
  refine wp_skip ?_
  refine hK68 _ _ ?_
  refine wp_seq_k fun K71 hK71 => ?_
  refine wp_block ?_
  refine wp_seq_k fun K75 hK75 => ?_
  refine wp_region_lit ?_
  refine st_val hS rfl rfl (by decide) (rv_move (hS.ev rfl)) fun a hS => ?_
  refine st_val hS rfl rfl (by decide) (rv_move (hS.ev rfl)) fun a hS => ?_
  refine st_val hS rfl rfl (by decide) (rv_move (hS.ev rfl)) fun a hS => ?_
  obtain ⟨x77, hx, hF⟩ := bind_some hF
  obtain ⟨hi0, hi1, hex77⟩ := idxL_some hx
  refine st_val hS rfl rfl (by decide) (rv_indexAddr Try.underlying22 ty_el_3 (hS.ev rfl) (hS.ev rfl) (rd_of_ow (hM.get 0 rfl)) hi0 (map_len hi1)) fun a hS => ?_
  obtain ⟨w, hr, hM⟩ := hM.st_el (f := (int i64)) (n := x57.toNat) (c := x56) (ρ := a.eval) (dst := none) (ty := _) (pos := _) (af := _) (gd := _) (x := .tmp 15) (y := .tmp 14) i64_one (hS.ev rfl) (hS.ev rfl) ty_sz_3 (List.getElem?_eq_some_iff.1 hex77).1
  refine st_unit hS rfl rfl hr ?_
  refine wpList_nil ?_
  refine hK75 _ _ ?_
  have hS : Sl 19 [(0, p0_av), (1, (int i64 x56)), (5, (int i64 x57))] a := hS.sub (sub_cons rfl (sub_cons rfl (sub_cons rfl sub_nil)))
  refine wp_region_lit ?_
  refine st_val hS rfl rfl (by decide) (rv_move (hS.ev rfl)) fun a hS => ?_
  refine st_val hS rfl rfl (by decide) (rv_add (hS.ev rfl) (hS.ev rfl)) fun a hS => ?_
  refine st_val hS rfl rfl (by decide) (rv_assign (hS.ev rfl)) fun a hS => ?_
  refine wpList_nil ?_
  refine hK71 _ _ ?_
  refine wp_region_lit ?_
  refine st_val hS rfl rfl (by decide) (rv_move (hS.ev rfl)) fun a hS => ?_
  refine st_val hS rfl rfl (by decide) (rv_add (hS.ev rfl) (hS.ev rfl)) fun a hS => ?_
  refine st_val hS rfl rfl (by decide) (rv_assign (hS.ev rfl)) fun a hS => ?_
  refine wpList_nil ?_
  cases hF
  exact hN2 _ _ _ rfl ⟨(hS.sub (sub_cons rfl (sub_cons rfl (sub_cons rfl sub_nil)))), (hM.pk [0] (by decide) (pc rfl pn))⟩
 ·refine cond_f hS rfl hc ?_
  refine wp_exit ?_
  cases hF
  exact hJ1 x56 l55 _ _ (hS.sub (sub_cons rfl sub_nil)) (hM.pk [0] (by decide) (pc rfl pn)) (by have e := hX2 _ rfl; subst e; exact hF2)


theorem c_laws_markGraph (F : Nat) (p0_a_Size : Int) (p0_a_Rows : List Int) (p1_k : Int) (p0_a_Rowsv : Value) {r : Int × (List (Int))} (hF : S_laws_markGraph F p0_a_Size p0_a_Rows p1_k = some r) (w0 : World) (hM : Mem (feet [(true, ow 3 p0_a_Rowsv (List.map (int i64) p0_a_Rows))]) w0 w0 [(true, ow 3 p0_a_Rowsv (List.map (int i64) p0_a_Rows))]) :
    Calls Try.prog 12 [(Value.agg #[(int i64 p0_a_Size), p0_a_Rowsv]), (int i64 p1_k)].toArray w0 (retPost fun v w' => v = (int i64 r.1) ∧ Mem (feet [(true, ow 3 p0_a_Rowsv (List.map (int i64) p0_a_Rows))]) w0 w' [(true, ow 3 p0_a_Rowsv (List.map (int i64) r.2))]) := by
 refine enter2 Try.func12 rfl rfl rfl fun Q a hQr hQn hQp hS => ?_
 have hS : Sl 10 [(0, (Value.agg #[(int i64 p0_a_Size), p0_a_Rowsv])), (1, (int i64 p1_k))] a := hS
 unfold S_laws_markGraph at hF
 refine wp_seq_k fun K1 hK1 => ?_
 refine wp_region_lit ?_
 obtain ⟨b3, w, hr, hM⟩ := hM.boxE (ρ := a.eval) (dst := some 2) (ty := _) (pos := _) (af := _) (gd := _) (x := .tmp 0) (T := 29) [(int i64 p0_a_Size), p0_a_Rowsv] (hS.ev rfl) rfl
 refine st_val hS rfl rfl (by decide) hr fun a hS => ?_
 refine st_val hS rfl rfl (by decide) (rv_assign (hS.ev rfl)) fun a hS => ?_
 refine wpList_nil ?_
 refine hK1 _ _ ?_
 refine wp_seq_k fun K4 hK4 => ?_
 refine wp_region_lit ?_
 refine st_val hS rfl rfl (by decide) (rv_fieldAddr ty_fd_29_1 (hS.ev rfl)) fun a hS => ?_
 refine st_val hS rfl rfl (by decide) (rv_load_bx (hS.ev rfl) ty_ag_22 (hM.get 0 rfl) rfl) fun a hS => ?_
 refine st_val hS rfl rfl (by decide) (rv_move (hS.ev rfl)) fun a hS => ?_
 obtain ⟨r6, hr, hF⟩ := bind_some hF
 have hM := hM.pk [1, 0] (by decide) (pc rfl (pc rfl pn))
 have hP := Mem.pre (A := [(true, ow 3 p0_a_Rowsv (List.map (int i64) p0_a_Rows))]) (C := []) (B := [(true, bx b3 29 [(int i64 p0_a_Size), p0_a_Rowsv])]) hM rfl weaks_nil
 refine st_wp hS rfl (wp_call hS rfl rfl (by decide) fn_ok_13 rfl (c_laws_markIntS F p0_a_Rows p1_k p0_a_Rowsv hr _ hP) fun v w a hK hS => ?_)
 obtain ⟨rfl, hN⟩ := hK
 have hM := Mem.callo (A := [(true, ow 3 p0_a_Rowsv (List.map (int i64) p0_a_Rows))]) (B := [(true, bx b3 29 [(int i64 p0_a_Size), p0_a_Rowsv])]) hM rfl hN rfl
 refine st_val hS rfl rfl (by decide) (rv_assign (hS.ev rfl)) fun a hS => ?_
 refine wpList_nil ?_
 refine hK4 _ _ ?_
 refine wp_seq_k fun K7 hK7 => ?_
 refine wp_region_lit ?_
 refine st_val hS rfl rfl (by decide) (rv_move (hS.ev rfl)) fun a hS => ?_
 refine st_val hS rfl rfl (by decide) (rv_assign (hS.ev rfl)) fun a hS => ?_
 refine wpList_nil ?_
 refine hK7 _ _ ?_
 have hS : Sl 10 [(4, (int i64 r6.1))] a := hS.sub (sub_cons rfl sub_nil)
 have hM := hM.pk [0] (by decide) (pc rfl pn)
 refine wp_ret ?_
 cases hF
 exact hQr _ _ (r_1 hS rfl rfl ⟨rfl, hM.pk [0] (by decide) (pc rfl pn)⟩)


theorem c_laws_markIntSS (F : Nat) (p0_a : List (List Int)) (p1_k : Int) (p0_av : Value) (p0_ah : List Value) {r : Int × (List (List Int))} (hF : S_laws_markIntSS F p0_a p1_k = some r) (w0 : World) (hM : Mem (feet [(true, mx 22 3 p0_av p0_ah (List.map (List.map (int i64)) p0_a))]) w0 w0 [(true, mx 22 3 p0_av p0_ah (List.map (List.map (int i64)) p0_a))]) :
    Calls Try.prog 14 [p0_av, (int i64 p1_k)].toArray w0 (retPost fun v w' => v = (int i64 r.1) ∧ Mem (feet [(true, mx 22 3 p0_av p0_ah (List.map (List.map (int i64)) p0_a))]) w0 w' [(true, mx 22 3 p0_av p0_ah (List.map (List.map (int i64)) r.2))]) := by
 refine enter2 Try.func14 rfl rfl rfl fun Q a hQr hQn hQp hS => ?_
 have hS : Sl 19 [(0, p0_av), (1, (int i64 p1_k))] a := hS
 unfold S_laws_markIntSS at hF
 refine wp_seq_k fun K1 hK1 => ?_
 refine wp_region_lit ?_
 refine st_val hS rfl rfl (by decide) (rv_assign (hS.ev rfl)) fun a hS => ?_
 refine wpList_nil ?_
 refine hK1 _ _ ?_
 refine wp_seq_k fun K2 hK2 => ?_
 have hJ1 : ∀ (x39 : Int) (l40 : List (List Int)) (a : Act) (w : World), Sl 19 [(1, (int i64 x39))] a → Mem (feet [(true, mx 22 3 p0_av p0_ah (List.map (List.map (int i64)) p0_a))]) w0 w [(true, mx 22 3 p0_av p0_ah (List.map (List.map (int i64)) l40))] → S_laws_markIntSS_j1 F x39 l40 = some r → K2 a w := by
  intro x39 l40 a w hS hM hF
  unfold S_laws_markIntSS_j1 at hF
  refine hK2 _ _ ?_
  refine wp_seq_k fun K41 hK41 => ?_
  refine wp_region_lit ?_
  refine st_val hS rfl rfl (by decide) (rv_move (hS.ev rfl)) fun a hS => ?_
  refine st_val hS rfl rfl (by decide) (rv_assign (hS.ev rfl)) fun a hS => ?_
  refine wpList_nil ?_
  refine hK41 _ _ ?_
  refine wp_ret ?_
  cases hF
  exact hQr _ _ (r_1 hS rfl rfl ⟨rfl, hM.pk [0] (by decide) (pc rfl pn)⟩)
 refine wp_seq_k fun K42 hK42 => ?_
 refine wp_region_lit ?_
 refine st_val hS rfl rfl (by decide) (rv_assign (hS.ev rfl)) fun a hS => ?_
 refine wpList_nil ?_
 refine hK42 _ _ ?_
 refine wp_block ?_
 obtain ⟨lb2, hl2, hF2⟩ := bind_some hF
 refine wp_loop_sh (fun s => S_laws_markIntSS_l2 F s.1 s.2.1 s.2.2) (fun s a w => Sl 19 [(0, p0_av), (1, (int i64 s.2.1)), (5, (int i64 s.2.2))] a ∧ Mem (feet [(true, mx 22 3 p0_av p0_ah (List.map (List.map (int i64)) p0_a))]) w0 w [(true, mx 22 3 p0_av p0_ah (List.map (List.map (int i64)) s.1))]) hl2 ⟨(hS.sub (sub_cons rfl (sub_cons rfl (sub_cons rfl sub_nil)))), (hM.pk [0] (by decide) (pc rfl pn))⟩ ?_
 rintro K2 ⟨l55, x56, x57⟩ a w res2 ⟨hS, hM⟩ hF hN2 hX2
 have hF : S_laws_markIntSS_l2 F l55 x56 x57 = some res2 := hF
 have hS : Sl 19 [(0, p0_av), (1, (int i64 x56)), (5, (int i64 x57))] a := hS
 have hM : Mem (feet [(true, mx 22 3 p0_av p0_ah (List.map (List.map (int i64)) p0_a))]) w0 w [(true, mx 22 3 p0_av p0_ah (List.map (List.map (int i64)) l55))] := hM
 unfold S_laws_markIntSS_l2 at hF
 refine wp_seq_k fun K68 hK68 => ?_
 refine wp_seq_k fun K70 hK70 => ?_
 refine wp_region_lit ?_
 refine st_val hS rfl rfl (by decide) (rv_move (hS.ev rfl)) fun a hS => ?_
 refine st_val hS rfl rfl (by decide) (rv_move (hS.ev rfl)) fun a hS => ?_
 refine st_val hS rfl rfl (by decide) (rv_len_mxM Try.underlying26 (hS.ev rfl) (hM.get 0 rfl)) fun a hS => ?_
 refine st_val hS rfl rfl (by decide) (rv_lss (hS.ev rfl) (hS.ev rfl)) fun a hS => ?_
 refine wpList_nil ?_
 refine hK70 _ _ ?_
 rcases ite_some hF with ⟨hc, hF⟩ | ⟨hc, hF⟩
 ·refine cond_t hS rfl hc ?_
  refine wp_skip ?_
  refine hK68 _ _ ?_
  refine wp_seq_k fun K71 hK71 => ?_
  refine wp_block ?_
  refine wp_region_lit ?_
  refine st_val hS rfl rfl (by decide) (rv_move (hS.ev rfl)) fun a hS => ?_
  refine st_val hS rfl rfl (by decide) (rv_move (hS.ev rfl)) fun a hS => ?_
  obtain ⟨x75, hx, hF⟩ := bind_some hF
  obtain ⟨hi0, hi1, hex75⟩ := idxL_some hx
  refine st_val hS rfl rfl (by decide) (rv_indexAddr Try.underlying26 ty_el_22 (hS.ev rfl) (hS.ev rfl) (mx_rd (hM.get 0 rfl)) hi0 (mx_lt (hM.get 0 rfl) hi1)) fun a hS => ?_
  obtain ⟨v76, hgx75⟩ := mx_get (hM.get 0 rfl) (mget hex75)
  refine st_val hS rfl rfl (by decide) (rv_load_el (hS.ev rfl) ty_ag_22 (mx_rd (hM.get 0 rfl)) hgx75) fun a hS => ?_
  refine st_val hS rfl rfl (by decide) (rv_move (hS.ev rfl)) fun a hS => ?_
  obtain ⟨r77, hr, hF⟩ := bind_some hF
  have hM := hM.mxSplit.swap.famOut hgx75 (mget hex75)
  have hP := Mem.pre (A := [(true, ow 3 v76 (List.map (int i64) x75))]) (C := []) (B := ((true, fam 3 (p0_ah.eraseIdx x57.toNat) ((List.map (List.map (int i64)) l55).eraseIdx x57.toNat)) :: (true, ow 22 p0_av p0_ah) :: [])) hM rfl weaks_nil
  refine st_wp hS rfl (wp_call hS rfl rfl (by decide) fn_ok_13 rfl (c_laws_markIntS F x75 x56 v76 hr _ hP) fun v w a hK hS => ?_)
  obtain ⟨rfl, hN⟩ := hK
  have hM := Mem.callo (A := [(true, ow 3 v76 (List.map (int i64) x75))]) (B := ((true, fam 3 (p0_ah.eraseIdx x57.toNat) ((List.map (List.map (int i64)) l55).eraseIdx x57.toNat)) :: (true, ow 22 p0_av p0_ah) :: [])) hM rfl hN rfl
  have hM := (Mem.famIn hM hgx75 (mget hex75)).swap.mxJoin
  have hM : Mem (feet [(true, mx 22 3 p0_av p0_ah (List.map (List.map (int i64)) p0_a))]) w0 w [(true, mx 22 3 p0_av p0_ah (List.map (List.map (int i64)) (l55.set (x57.toNat) r77.2)))] := by simpa only [List.map_set] using hM
  refine st_val hS rfl rfl (by decide) (rv_assign (hS.ev rfl)) fun a hS => ?_
  refine wpList_nil ?_
  refine hK71 _ _ ?_
  have hS : Sl 19 [(0, p0_av), (1, (int i64 r77.1)), (5, (int i64 x57))] a := hS.sub (sub_cons rfl (sub_cons rfl (sub_cons rfl sub_nil)))
  refine wp_region_lit ?_
  refine st_val hS rfl rfl (by decide) (rv_move (hS.ev rfl)) fun a hS => ?_
  refine st_val hS rfl rfl (by decide) (rv_add (hS.ev rfl) (hS.ev rfl)) fun a hS => ?_
  refine st_val hS rfl rfl (by decide) (rv_assign (hS.ev rfl)) fun a hS => ?_
  refine wpList_nil ?_
  cases hF
  exact hN2 _ _ _ rfl ⟨(hS.sub (sub_cons rfl (sub_cons rfl (sub_cons rfl sub_nil)))), (hM.pk [0] (by decide) (pc rfl pn))⟩
 ·refine cond_f hS rfl hc ?_
  refine wp_exit ?_
  cases hF
  exact hJ1 x56 l55 _ _ (hS.sub (sub_cons rfl sub_nil)) (hM.pk [0] (by decide) (pc rfl pn)) (by have e := hX2 _ rfl; subst e; exact hF2)


theorem c_laws_heldIntS (F : Nat) (p0_a : List Int) (p1_k : Int) (p0_av : Value) {r : Int} (hF : S_laws_heldIntS F p0_a p1_k = some r) (w0 : World) (h0 : RdRow w0 p0_av (List.map (int i64) p0_a)) :
    Calls Try.prog 27 [p0_av, (int i64 p1_k)].toArray w0 (retPost fun v w' => v = (int i64 r) ∧ Mem Nob w0 w' []) := by
 have hM : Mem Nob w0 w0 [(false, rd p0_av (List.map (int i64) p0_a))] := (Mem.rcons (Mem.nil w0) h0 (by simp))
 refine enter2 Try.func27 rfl rfl rfl fun Q a hQr hQn hQp hS => ?_
 have hS : Sl 21 [(0, p0_av), (1, (int i64 p1_k))] a := hS
 unfold S_laws_heldIntS at hF
 refine wp_seq_k fun K1 hK1 => ?_
 refine wp_region_lit ?_
 refine st_val hS rfl rfl (by decide) (rv_assign (hS.ev rfl)) fun a hS => ?_
 refine wpList_nil ?_
 refine hK1 _ _ ?_
 refine wp_seq_k fun K2 hK2 => ?_
 have hJ1 : ∀ (x50 : Int) (a : Act) (w : World), Sl 21 [(1, (int i64 x50))] a → Mem Nob w0 w [] → S_laws_heldIntS_j1 F x50 = some r → K2 a w := by
  intro x50 a w hS hM hF
  unfold S_laws_heldIntS_j1 at hF
  refine hK2 _ _ ?_
  refine wp_seq_k fun K51 hK51 => ?_
  refine wp_region_lit ?_
  refine st_val hS rfl rfl (by decide) (rv_move (hS.ev rfl)) fun a hS => ?_
  refine st_val hS rfl rfl (by decide) (rv_assign (hS.ev rfl)) fun a hS => ?_
  refine wpList_nil ?_
  refine hK51 _ _ ?_
  refine wp_ret ?_
  cases hF
  exact hQr _ _ (r_1 hS rfl rfl ⟨rfl, hM.pk [] (by decide) pn⟩)
 refine wp_seq_k fun K52 hK52 => ?_
 refine wp_region_lit ?_
 refine st_val hS rfl rfl (by decide) (rv_assign (hS.ev rfl)) fun a hS => ?_
 refine wpList_nil ?_
 refine hK52 _ _ ?_
 refine wp_block ?_
 obtain ⟨lb2, hl2, hF2⟩ := bind_some hF
 refine wp_loop_sh (fun s => S_laws_heldIntS_l2 F p0_a s.1 s.2) (fun s a w => Sl 21 [(0, p0_av), (1, (int i64 s.1)), (5, (int i64 s.2))] a ∧ Mem Nob w0 w [(false, rd p0_av (List.map (int i64) p0_a))]) hl2 ⟨(hS.sub (sub_cons rfl (sub_cons rfl (sub_cons rfl sub_nil)))), (hM.pk [0] (by decide) (pc rfl pn))⟩ ?_
 rintro K2 ⟨x53, x54⟩ a w res2 ⟨hS, hM⟩ hF hN2 hX2
 have hF : S_laws_heldIntS_l2 F p0_a x53 x54 = some res2 := hF
 have hS : Sl 21 [(0, p0_av), (1, (int i64 x53)), (5, (int i64 x54))] a := hS
 have hM : Mem Nob w0 w [(false, rd p0_av (List.map (int i64) p0_a))] := hM
 unfold S_laws_heldIntS_l2 at hF
 refine wp_seq_k fun K77 hK77 => ?_
 refine wp_seq_k fun K79 hK79 => ?_
 refine wp_region_lit ?_
 refine st_val hS rfl rfl (by decide) (rv_move (hS.ev rfl)) fun a hS => ?_
 refine st_val hS rfl rfl (by decide) (rv_move (hS.ev rfl)) fun a hS => ?_
 refine st_val hS rfl rfl (by decide) (rv_len_rowM Try.underlying22 (hS.ev rfl) (hM.get 0 rfl)) fun a hS => ?_
 refine st_val hS rfl rfl (by decide) (rv_lss (hS.ev rfl) (hS.ev rfl)) fun a hS => ?_
 refine wpList_nil ?_
 refine hK79 _ _ ?_
 rcases ite_some hF with ⟨hc, hF⟩ | ⟨hc, hF⟩
 ·refine cond_t hS rfl hc ?_
  refine wp_skip ?_
  refine hK77 _ _ ?_
  refine wp_seq_k fun K80 hK80 => ?_
  refine wp_block ?_
  refine wp_seq_k fun K90 hK90 => ?_
  refine wp_seq_k fun K95 hK95 => ?_
  refine wp_region_lit ?_
  refine st_val hS rfl rfl (by decide) (rv_move (hS.ev rfl)) fun a hS => ?_
  refine st_val hS rfl rfl (by decide) (rv_move (hS.ev rfl)) fun a hS => ?_
  obtain ⟨x97, hx, hF⟩ := bind_some hF
  obtain ⟨hi0, hi1, hex97⟩ := idxL_some hx
  refine st_val hS rfl rfl (by decide) (rv_indexAddr Try.underlying22 ty_el_3 (hS.ev rfl) (hS.ev rfl) (hM.get 0 rfl) hi0 (map_len hi1)) fun a hS => ?_
  refine st_val hS rfl rfl (by decide) (rv_load_el (hS.ev rfl) ty_ag_3 (hM.get 0 rfl) (mget hex97)) fun a hS => ?_
  refine st_val hS rfl rfl (by decide) (rv_move (hS.ev rfl)) fun a hS => ?_
  refine st_val hS rfl rfl (by decide) (rv_neq (hS.ev rfl) (hS.ev rfl)) fun a hS => ?_
  refine wpList_nil ?_
  refine hK95 _ _ ?_
  have hS : Sl 21 [(0, p0_av), (1, (int i64 x53)), (5, (int i64 x54)), (17, (Value.bool (x97 != x53)))] a := hS.sub (sub_cons rfl (sub_cons rfl (sub_cons rfl (sub_cons rfl sub_nil))))
  rcases ite_some hF with ⟨hc, hF⟩ | ⟨hc, hF⟩
  ·refine cond_t hS rfl hc ?_
   refine wp_seq_k fun K98 hK98 => ?_
   refine wp_region_lit ?_
   refine st_val hS rfl rfl (by decide) (rv_assign (hS.ev rfl)) fun a hS => ?_
   refine wpList_nil ?_
   refine hK98 _ _ ?_
   refine wp_ret ?_
   cases hF
   have e := hX2 _ rfl
   subst e
   have hF := hF2
   cases hF
   exact hQr _ _ (r_1 hS rfl rfl ⟨rfl, hM.pk [] (by decide) pn⟩)
  ·refine cond_f hS rfl hc ?_
   refine wp_skip ?_
   refine hK90 _ _ ?_
   refine wp_region_lit ?_
   refine st_val hS rfl rfl (by decide) (rv_move (hS.ev rfl)) fun a hS => ?_
   refine st_val hS rfl rfl (by decide) (rv_add (hS.ev rfl) (hS.ev rfl)) fun a hS => ?_
   refine st_val hS rfl rfl (by decide) (rv_assign (hS.ev rfl)) fun a hS => ?_
   refine wpList_nil ?_
   refine hK80 _ _ ?_
   refine wp_region_lit ?_
   refine st_val hS rfl rfl (by decide) (rv_move (hS.ev rfl)) fun a hS => ?_
   refine st_val hS rfl rfl (by decide) (rv_add (hS.ev rfl) (hS.ev rfl)) fun a hS => ?_
   refine st_val hS rfl rfl (by decide) (rv_assign (hS.ev rfl)) fun a hS => ?_
   refine wpList_nil ?_
   cases hF
   exact hN2 _ _ _ rfl ⟨(hS.sub (sub_cons rfl (sub_cons rfl (sub_cons rfl sub_nil)))), (hM.pk [0] (by decide) (pc rfl pn))⟩
 ·refine cond_f hS rfl hc ?_
  refine wp_exit ?_
  cases hF
  exact hJ1 x53 _ _ (hS.sub (sub_cons rfl sub_nil)) (hM.pk [] (by decide) pn) (by have e := hX2 _ rfl; subst e; exact hF2)


theorem c_laws_heldIntSS (F : Nat) (p0_a : List (List Int)) (p1_k : Int) (p0_av : Value) (p0_ah : List Value) {r : Int} (hF : S_laws_heldIntSS F p0_a p1_k = some r) (w0 : World) (h0 : (mx 22 3 p0_av p0_ah (List.map (List.map (int i64)) p0_a)).P w0) :
    Calls Try.prog 15 [p0_av, (int i64 p1_k)].toArray w0 (retPost fun v w' => v = (int i64 r) ∧ Mem Nob w0 w' []) := by
 have hM : Mem Nob w0 w0 [(false, mx 22 3 p0_av p0_ah (List.map (List.map (int i64)) p0_a))] := (Mem.gcons (Mem.nil w0) h0 (by simp))
 refine enter2 Try.func15 rfl rfl rfl fun Q a hQr hQn hQp hS => ?_
 have hS : Sl 21 [(0, p0_av), (1, (int i64 p1_k))] a := hS
 unfold S_laws_heldIntSS at hF
 refine wp_seq_k fun K1 hK1 => ?_
 refine wp_region_lit ?_
 refine st_val hS rfl rfl (by decide) (rv_assign (hS.ev rfl)) fun a hS => ?_
 refine wpList_nil ?_
 refine hK1 _ _ ?_
 refine wp_seq_k fun K2 hK2 => ?_
 have hJ1 : ∀ (x50 : Int) (a : Act) (w : World), Sl 21 [(1, (int i64 x50))] a → Mem Nob w0 w [] → S_laws_heldIntSS_j1 F x50 = some r → K2 a w := by
  intro x50 a w hS hM hF
  unfold S_laws_heldIntSS_j1 at hF
  refine hK2 _ _ ?_
  refine wp_seq_k fun K51 hK51 => ?_
  refine wp_region_lit ?_
  refine st_val hS rfl rfl (by decide) (rv_move (hS.ev rfl)) fun a hS => ?_
  refine st_val hS rfl rfl (by decide) (rv_assign (hS.ev rfl)) fun a hS => ?_
  refine wpList_nil ?_
  refine hK51 _ _ ?_
  refine wp_ret ?_
  cases hF
  exact hQr _ _ (r_1 hS rfl rfl ⟨rfl, hM.pk [] (by decide) pn⟩)
 refine wp_seq_k fun K52 hK52 => ?_
 refine wp_region_lit ?_
 refine st_val hS rfl rfl (by decide) (rv_assign (hS.ev rfl)) fun a hS => ?_
 refine wpList_nil ?_
 refine hK52 _ _ ?_
 refine wp_block ?_
 obtain ⟨lb2, hl2, hF2⟩ := bind_some hF
 refine wp_loop_sh (fun s => S_laws_heldIntSS_l2 F p0_a s.1 s.2) (fun s a w => Sl 21 [(0, p0_av), (1, (int i64 s.1)), (5, (int i64 s.2))] a ∧ Mem Nob w0 w [(false, mx 22 3 p0_av p0_ah (List.map (List.map (int i64)) p0_a))]) hl2 ⟨(hS.sub (sub_cons rfl (sub_cons rfl (sub_cons rfl sub_nil)))), (hM.pk [0] (by decide) (pc rfl pn))⟩ ?_
 rintro K2 ⟨x53, x54⟩ a w res2 ⟨hS, hM⟩ hF hN2 hX2
 have hF : S_laws_heldIntSS_l2 F p0_a x53 x54 = some res2 := hF
 have hS : Sl 21 [(0, p0_av), (1, (int i64 x53)), (5, (int i64 x54))] a := hS
 have hM : Mem Nob w0 w [(false, mx 22 3 p0_av p0_ah (List.map (List.map (int i64)) p0_a))] := hM
 unfold S_laws_heldIntSS_l2 at hF
 refine wp_seq_k fun K77 hK77 => ?_
 refine wp_seq_k fun K79 hK79 => ?_
 refine wp_region_lit ?_
 refine st_val hS rfl rfl (by decide) (rv_move (hS.ev rfl)) fun a hS => ?_
 refine st_val hS rfl rfl (by decide) (rv_move (hS.ev rfl)) fun a hS => ?_
 refine st_val hS rfl rfl (by decide) (rv_len_mxM Try.underlying26 (hS.ev rfl) (hM.get 0 rfl)) fun a hS => ?_
 refine st_val hS rfl rfl (by decide) (rv_lss (hS.ev rfl) (hS.ev rfl)) fun a hS => ?_
 refine wpList_nil ?_
 refine hK79 _ _ ?_
 rcases ite_some hF with ⟨hc, hF⟩ | ⟨hc, hF⟩
 ·refine cond_t hS rfl hc ?_
  refine wp_skip ?_
  refine hK77 _ _ ?_
  refine wp_seq_k fun K80 hK80 => ?_
  refine wp_block ?_
  refine wp_seq_k fun K90 hK90 => ?_
  refine wp_region_lit ?_
  refine st_val hS rfl rfl (by decide) (rv_move (hS.ev rfl)) fun a hS => ?_
  refine st_val hS rfl rfl (by decide) (rv_move (hS.ev rfl)) fun a hS => ?_
  obtain ⟨x94, hx, hF⟩ := bind_some hF
  obtain ⟨hi0, hi1, hex94⟩ := idxL_some hx
  refine st_val hS rfl rfl (by decide) (rv_indexAddr Try.underlying26 ty_el_22 (hS.ev rfl) (hS.ev rfl) (mx_rd (hM.get 0 rfl)) hi0 (mx_lt (hM.get 0 rfl) hi1)) fun a hS => ?_
  obtain ⟨v95, hgx94⟩ := mx_get (hM.get 0 rfl) (mget hex94)
  refine st_val hS rfl rfl (by decide) (rv_load_el (hS.ev rfl) ty_ag_22 (mx_rd (hM.get 0 rfl)) hgx94) fun a hS => ?_
  refine st_val hS rfl rfl (by decide) (rv_move (hS.ev rfl)) fun a hS => ?_
  obtain ⟨r96, hr, hF⟩ := bind_some hF
  refine st_wp hS rfl (wp_call hS rfl rfl (by decide) fn_ok_27 rfl (c_laws_heldIntS F x94 x53 v95 hr _ (mx_row (hM.get 0 rfl) hgx94 (mget hex94))) fun v w a hK hS => ?_)
  obtain ⟨rfl, hN⟩ := hK
  have hM := hM.fra hN.fr
  refine st_val hS rfl rfl (by decide) (rv_assign (hS.ev rfl)) fun a hS => ?_
  refine wpList_nil ?_
  refine hK90 _ _ ?_
  have hS : Sl 21 [(0, p0_av), (1, (int i64 r96)), (5, (int i64 x54))] a := hS.sub (sub_cons rfl (sub_cons rfl (sub_cons rfl sub_nil)))
  refine wp_seq_k fun K97 hK97 => ?_
  refine wp_region_lit ?_
  refine st_val hS rfl rfl (by decide) (rv_move (hS.ev rfl)) fun a hS => ?_
  refine st_val hS rfl rfl (by decide) (rv_lss (hS.ev rfl) (hS.ev rfl)) fun a hS => ?_
  refine wpList_nil ?_
  refine hK97 _ _ ?_
  rcases ite_some hF with ⟨hc, hF⟩ | ⟨hc, hF⟩
  ·refine cond_t hS rfl hc ?_
   refine wp_seq_k fun K98 hK98 => ?_
   refine wp_region_lit ?_
   refine st_val hS rfl rfl (by decide) (rv_assign (hS.ev rfl)) fun a hS => ?_
   refine wpList_nil ?_
   refine hK98 _ _ ?_
   refine wp_ret ?_
   cases hF
   have e := hX2 _ rfl
   subst e
   have hF := hF2
   cases hF
   exact hQr _ _ (r_1 hS rfl rfl ⟨rfl, hM.pk [] (by decide) pn⟩)
  ·refine cond_f hS rfl hc ?_
   refine wp_skip ?_
   refine hK80 _ _ ?_
   refine wp_region_lit ?_
   refine st_val hS rfl rfl (by decide) (rv_move (hS.ev rfl)) fun a hS => ?_
   refine st_val hS rfl rfl (by decide) (rv_add (hS.ev rfl) (hS.ev rfl)) fun a hS => ?_
   refine st_val hS rfl rfl (by decide) (rv_assign (hS.ev rfl)) fun a hS => ?_
   refine wpList_nil ?_
   cases hF
   exact hN2 _ _ _ rfl ⟨(hS.sub (sub_cons rfl (sub_cons rfl (sub_cons rfl sub_nil)))), (hM.pk [0] (by decide) (pc rfl pn))⟩
 ·refine cond_f hS rfl hc ?_
  refine wp_exit ?_
  cases hF
  exact hJ1 x53 _ _ (hS.sub (sub_cons rfl sub_nil)) (hM.pk [] (by decide) pn) (by have e := hX2 _ rfl; subst e; exact hF2)


theorem c_laws_szIntS (F : Nat) (p0_a : List Int) (p1_left : Int) (p0_av : Value) {r : Int} (hF : S_laws_szIntS F p0_a p1_left = some r) (w0 : World) (h0 : RdRow w0 p0_av (List.map (int i64) p0_a)) :
    Calls Try.prog 16 [p0_av, (int i64 p1_left)].toArray w0 (retPost fun v w' => v = (int i64 r) ∧ Mem Nob w0 w' []) := by
 have hM : Mem Nob w0 w0 [(false, rd p0_av (List.map (int i64) p0_a))] := (Mem.rcons (Mem.nil w0) h0 (by simp))
 refine enter2 Try.func16 rfl rfl rfl fun Q a hQr hQn hQp hS => ?_
 have hS : Sl 12 [(0, p0_av), (1, (int i64 p1_left))] a := hS
 unfold S_laws_szIntS at hF
 refine wp_seq_k fun K1 hK1 => ?_
 refine wp_region_lit ?_
 refine st_val hS rfl rfl (by decide) (rv_assign (hS.ev rfl)) fun a hS => ?_
 refine wpList_nil ?_
 refine hK1 _ _ ?_
 refine wp_seq_k fun K2 hK2 => ?_
 refine wp_region_lit ?_
 refine st_val hS rfl rfl (by decide) (rv_move (hS.ev rfl)) fun a hS => ?_
 refine st_val hS rfl rfl (by decide) (rv_move (hS.ev rfl)) fun a hS => ?_
 refine st_val hS rfl rfl (by decide) (rv_len_rowM Try.underlying22 (hS.ev rfl) (hM.get 0 rfl)) fun a hS => ?_
 refine st_val hS rfl rfl (by decide) (rv_sub (hS.ev rfl) (hS.ev rfl)) fun a hS => ?_
 refine st_val hS rfl rfl (by decide) (rv_assign (hS.ev rfl)) fun a hS => ?_
 refine wpList_nil ?_
 refine hK2 _ _ ?_
 refine wp_seq_k fun K3 hK3 => ?_
 refine wp_seq_k fun K6 hK6 => ?_
 refine wp_region_lit ?_
 refine st_val hS rfl rfl (by decide) (rv_move (hS.ev rfl)) fun a hS => ?_
 refine st_val hS rfl rfl (by decide) (rv_lss (hS.ev rfl) (hS.ev rfl)) fun a hS => ?_
 refine wpList_nil ?_
 refine hK6 _ _ ?_
 rcases ite_some hF with ⟨hc, hF⟩ | ⟨hc, hF⟩
 ·refine cond_t hS rfl hc ?_
  refine wp_seq_k fun K7 hK7 => ?_
  refine wp_region_lit ?_
  refine st_val hS rfl rfl (by decide) (rv_assign (hS.ev rfl)) fun a hS => ?_
  refine wpList_nil ?_
  refine hK7 _ _ ?_
  have hS : Sl 12 [(4, (int i64 (-1)))] a := hS.sub (sub_cons rfl sub_nil)
  have hM := hM.pk [] (by decide) pn
  refine wp_ret ?_
  cases hF
  exact hQr _ _ (r_1 hS rfl rfl ⟨rfl, hM.pk [] (by decide) pn⟩)
 ·refine cond_f hS rfl hc ?_
  refine wp_skip ?_
  refine hK3 _ _ ?_
  have hS : Sl 12 [(1, (int i64 (i64.wrap (p1_left - (p0_a.length : Int)))))] a := hS.sub (sub_cons rfl sub_nil)
  have hM := hM.pk [] (by decide) pn
  refine wp_seq_k fun K8 hK8 => ?_
  refine wp_region_lit ?_
  refine st_val hS rfl rfl (by decide) (rv_move (hS.ev rfl)) fun a hS => ?_
  refine st_val hS rfl rfl (by decide) (rv_assign (hS.ev rfl)) fun a hS => ?_
  refine wpList_nil ?_
  refine hK8 _ _ ?_
  refine wp_ret ?_
  cases hF
  exact hQr _ _ (r_1 hS rfl rfl ⟨rfl, hM.pk [] (by decide) pn⟩)


theorem c_laws_szGraph (F : Nat) (p0_a_Size : Int) (p0_a_Rows : List Int) (p1_left : Int) (p0_a_Rowsv : Value) {r : Int} (hF : S_laws_szGraph F p0_a_Size p0_a_Rows p1_left = some r) (w0 : World) (h0 : RdRow w0 p0_a_Rowsv (List.map (int i64) p0_a_Rows)) :
    Calls Try.prog 4 [(Value.agg #[(int i64 p0_a_Size), p0_a_Rowsv]), (int i64 p1_left)].toArray w0 (retPost fun v w' => v = (int i64 r) ∧ Mem Nob w0 w' []) := by
 have hM : Mem Nob w0 w0 [(false, rd p0_a_Rowsv (List.map (int i64) p0_a_Rows))] := (Mem.rcons (Mem.nil w0) h0 (by simp))
 refine enter2 Try.func4 rfl rfl rfl fun Q a hQr hQn hQp hS => ?_
 have hS : Sl 12 [(0, (Value.agg #[(int i64 p0_a_Size), p0_a_Rowsv])), (1, (int i64 p1_left))] a := hS
 unfold S_laws_szGraph at hF
 refine wp_seq_k fun K1 hK1 => ?_
 refine wp_region_lit ?_
 obtain ⟨b3, w, hr, hM⟩ := hM.boxE (ρ := a.eval) (dst := some 2) (ty := _) (pos := _) (af := _) (gd := _) (x := .tmp 0) (T := 24) [(int i64 p0_a_Size), p0_a_Rowsv] (hS.ev rfl) rfl
 refine st_val hS rfl rfl (by decide) hr fun a hS => ?_
 refine st_val hS rfl rfl (by decide) (rv_assign (hS.ev rfl)) fun a hS => ?_
 refine wpList_nil ?_
 refine hK1 _ _ ?_
 refine wp_seq_k fun K4 hK4 => ?_
 refine wp_region_lit ?_
 refine st_val hS rfl rfl (by decide) (rv_fieldAddr ty_fd_24_1 (hS.ev rfl)) fun a hS => ?_
 refine st_val hS rfl rfl (by decide) (rv_load_bx (hS.ev rfl) ty_ag_22 (hM.get 0 rfl) rfl) fun a hS => ?_
 refine st_val hS rfl rfl (by decide) (rv_move (hS.ev rfl)) fun a hS => ?_
 obtain ⟨r6, hr, hF⟩ := bind_some hF
 refine st_wp hS rfl (wp_call hS rfl rfl (by decide) fn_ok_16 rfl (c_laws_szIntS F p0_a_Rows p1_left p0_a_Rowsv hr _ (hM.get 1 rfl)) fun v w a hK hS => ?_)
 obtain ⟨rfl, hN⟩ := hK
 have hM := hM.fra hN.fr
 refine st_val hS rfl rfl (by decide) (rv_assign (hS.ev rfl)) fun a hS => ?_
 refine wpList_nil ?_
 refine hK4 _ _ ?_
 refine wp_seq_k fun K7 hK7 => ?_
 refine wp_seq_k fun K10 hK10 => ?_
 refine wp_region_lit ?_
 refine st_val hS rfl rfl (by decide) (rv_move (hS.ev rfl)) fun a hS => ?_
 refine st_val hS rfl rfl (by decide) (rv_lss (hS.ev rfl) (hS.ev rfl)) fun a hS => ?_
 refine wpList_nil ?_
 refine hK10 _ _ ?_
 have hS : Sl 12 [(1, (int i64 r6)), (10, (Value.bool (decide (r6 < 0))))] a := hS.sub (sub_cons rfl (sub_cons rfl sub_nil))
 have hM := hM.pk [] (by decide) pn
 rcases ite_some hF with ⟨hc, hF⟩ | ⟨hc, hF⟩
 ·refine cond_t hS rfl hc ?_
  refine wp_seq_k fun K11 hK11 => ?_
  refine wp_region_lit ?_
  refine st_val hS rfl rfl (by decide) (rv_assign (hS.ev rfl)) fun a hS => ?_
  refine wpList_nil ?_
  refine hK11 _ _ ?_
  refine wp_ret ?_
  cases hF
  exact hQr _ _ (r_1 hS rfl rfl ⟨rfl, hM.pk [] (by decide) pn⟩)
 ·refine cond_f hS rfl hc ?_
  refine wp_skip ?_
  refine hK7 _ _ ?_
  refine wp_seq_k fun K12 hK12 => ?_
  refine wp_region_lit ?_
  refine st_val hS rfl rfl (by decide) (rv_move (hS.ev rfl)) fun a hS => ?_
  refine st_val hS rfl rfl (by decide) (rv_assign (hS.ev rfl)) fun a hS => ?_
  refine wpList_nil ?_
  refine hK12 _ _ ?_
  refine wp_ret ?_
  cases hF
  exact hQr _ _ (r_1 hS rfl rfl ⟨rfl, hM.pk [] (by decide) pn⟩)


theorem c_spec_l1In (F : Nat) (p0_x : Int) (p1_low : Int) (p2_high : Int) {r : Bool} (hF : S_spec_l1In F p0_x p1_low p2_high = some r) (w0 : World) :
    Calls Try.prog 43 [(int i64 p0_x), (int i64 p1_low), (int i64 p2_high)].toArray w0 (retPost fun v w' => v = (Value.bool r) ∧ Mem Nob w0 w' []) := by
 have hM : Mem Nob w0 w0 [] := (Mem.nil w0)
 refine enter2 Try.func43 rfl rfl rfl fun Q a hQr hQn hQp hS => ?_
 have hS : Sl 15 [(0, (int i64 p0_x)), (1, (int i64 p1_low)), (2, (int i64 p2_high))] a := hS
 unfold S_spec_l1In at hF
 refine wp_seq_k fun K1 hK1 => ?_
 refine wp_region_lit ?_
 refine st_val hS rfl rfl (by decide) (rv_assign (hS.ev rfl)) fun a hS => ?_
 refine wpList_nil ?_
 refine hK1 _ _ ?_
 refine wp_seq_k fun K2 hK2 => ?_
 have hJ1 : ∀ (p3 : Bool) (a : Act) (w : World), Sl 15 [(6, (Value.bool p3))] a → Mem Nob w0 w [] → S_spec_l1In_j1 F p3 = some r → K2 a w := by
  intro p3 a w hS hM hF
  unfold S_spec_l1In_j1 at hF
  refine hK2 _ _ ?_
  refine wp_ret ?_
  cases hF
  exact hQr _ _ (r_1 hS rfl rfl ⟨rfl, hM.pk [] (by decide) pn⟩)
 refine wp_region_lit ?_
 refine st_val hS rfl rfl (by decide) (rv_move (hS.ev rfl)) fun a hS => ?_
 refine st_val hS rfl rfl (by decide) (rv_move (hS.ev rfl)) fun a hS => ?_
 refine st_val hS rfl rfl (by decide) (rv_geq (hS.ev rfl) (hS.ev rfl)) fun a hS => ?_
 refine st_val hS rfl rfl (by decide) (rv_move (hS.ev rfl)) fun a hS => ?_
 rcases ite_some hF with ⟨hc, hF⟩ | ⟨hc, hF⟩
 ·have hS := hS.setb (t := 10) rfl hc
  refine st_val hS rfl rfl (by decide) (rv_move (hS.ev rfl)) fun a hS => ?_
  refine st_val hS rfl rfl (by decide) (rv_move (hS.ev rfl)) fun a hS => ?_
  refine st_val hS rfl rfl (by decide) (rv_leq (hS.ev rfl) (hS.ev rfl)) fun a hS => ?_
  refine st_val hS rfl rfl (by decide) (rv_pick_t (hS.ev rfl) (hS.ev rfl)) fun a hS => ?_
  refine st_val hS rfl rfl (by decide) (rv_assign (hS.ev rfl)) fun a hS => ?_
  refine wpList_nil ?_
  exact hJ1 (decide (p0_x ≤ p2_high)) _ _ (hS.sub (sub_cons rfl sub_nil)) (hM.pk [] (by decide) pn) hF
 ·have hS := hS.setb (t := 10) rfl hc
  refine st_skip hS rfl rfl (by decide) fun a hS => ?_
  refine st_skip hS rfl rfl (by decide) fun a hS => ?_
  refine st_skip hS rfl rfl (by decide) fun a hS => ?_
  refine st_val hS rfl rfl (by decide) (rv_pick_f (hS.ev rfl) (hS.ev rfl)) fun a hS => ?_
  refine st_val hS rfl rfl (by decide) (rv_assign (hS.ev rfl)) fun a hS => ?_
  refine wpList_nil ?_
  exact hJ1 false _ _ (hS.sub (sub_cons rfl sub_nil)) (hM.pk [] (by decide) pn) hF


theorem c_spec_IsGraph (F : Nat) (p0_g_Size : Int) (p0_g_Rows : List Int) (p0_g_Rowsv : Value) {r : Bool} (hF : S_spec_IsGraph F p0_g_Size p0_g_Rows = some r) (w0 : World) (h0 : RdRow w0 p0_g_Rowsv (List.map (int i64) p0_g_Rows)) :
    Calls Try.prog 33 [(Value.agg #[(int i64 p0_g_Size), p0_g_Rowsv])].toArray w0 (retPost fun v w' => v = (Value.bool r) ∧ Mem Nob w0 w' []) := by
 have hM : Mem Nob w0 w0 [(false, rd p0_g_Rowsv (List.map (int i64) p0_g_Rows))] := (Mem.rcons (Mem.nil w0) h0 (by simp))
 refine enter2 Try.func33 rfl rfl rfl fun Q a hQr hQn hQp hS => ?_
 have hS : Sl 96 [(0, (Value.agg #[(int i64 p0_g_Size), p0_g_Rowsv]))] a := hS
 unfold S_spec_IsGraph at hF
 refine wp_seq_k fun K1 hK1 => ?_
 refine wp_region_lit ?_
 obtain ⟨b3, w, hr, hM⟩ := hM.boxE (ρ := a.eval) (dst := some 1) (ty := _) (pos := _) (af := _) (gd := _) (x := .tmp 0) (T := 29) [(int i64 p0_g_Size), p0_g_Rowsv] (hS.ev rfl) rfl
 refine st_val hS rfl rfl (by decide) hr fun a hS => ?_
 refine st_val hS rfl rfl (by decide) (rv_assign (hS.ev rfl)) fun a hS => ?_
 refine wpList_nil ?_
 refine hK1 _ _ ?_
 refine wp_seq_k fun K4 hK4 => ?_
 refine wp_seq_k fun K10 hK10 => ?_
 have hJ1 : ∀ (p12 : Bool) (a : Act) (w : World), Sl 96 [(1, (fdp b3 0)), (16, (Value.bool p12))] a → Mem Nob w0 w [(true, bx b3 29 [(int i64 p0_g_Size), p0_g_Rowsv]), (false, rd p0_g_Rowsv (List.map (int i64) p0_g_Rows))] → S_spec_IsGraph_j1 F p0_g_Size p0_g_Rows p12 = some r → K10 a w := by
  intro p12 a w hS hM hF
  unfold S_spec_IsGraph_j1 at hF
  refine hK10 _ _ ?_
  rcases ite_some hF with ⟨hc, hF⟩ | ⟨hc, hF⟩
  ·refine cond_t hS rfl hc ?_
   refine wp_seq_k fun K13 hK13 => ?_
   refine wp_region_lit ?_
   refine st_val hS rfl rfl (by decide) (rv_assign (hS.ev rfl)) fun a hS => ?_
   refine wpList_nil ?_
   refine hK13 _ _ ?_
   refine wp_ret ?_
   cases hF
   exact hQr _ _ (r_1 hS rfl rfl ⟨rfl, hM.pk [] (by decide) pn⟩)
  ·refine cond_f hS rfl hc ?_
   refine wp_skip ?_
   refine hK4 _ _ ?_
   refine wp_seq_k fun K14 hK14 => ?_
   have hJ2 : ∀ (a : Act) (w : World), Sl 96 [] a → Mem Nob w0 w [] → S_spec_IsGraph_j2 F = some r → K14 a w := by
    intro a w hS hM hF
    unfold S_spec_IsGraph_j2 at hF
    refine hK14 _ _ ?_
    refine wp_seq_k fun K317 hK317 => ?_
    refine wp_region_lit ?_
    refine st_val hS rfl rfl (by decide) (rv_assign (hS.ev rfl)) fun a hS => ?_
    refine wpList_nil ?_
    refine hK317 _ _ ?_
    refine wp_ret ?_
    cases hF
    exact hQr _ _ (r_1 hS rfl rfl ⟨rfl, hM.pk [] (by decide) pn⟩)
   refine wp_seq_k fun K318 hK318 => ?_
   refine wp_region_lit ?_
   refine st_val hS rfl rfl (by decide) (rv_assign (hS.ev rfl)) fun a hS => ?_
   refine wpList_nil ?_
   refine hK318 _ _ ?_
   refine wp_block ?_
   obtain ⟨lb3, hl3, hF3⟩ := bind_some hF
   refine wp_loop_sh (fun s => S_spec_IsGraph_l3 F p0_g_Size p0_g_Rows s) (fun s a w => Sl 96 [(1, (fdp b3 0)), (3, (int i64 s))] a ∧ Mem Nob w0 w [(true, bx b3 29 [(int i64 p0_g_Size), p0_g_Rowsv]), (false, rd p0_g_Rowsv (List.map (int i64) p0_g_Rows))]) hl3 ⟨(hS.sub (sub_cons rfl (sub_cons rfl sub_nil))), (hM.pk [0, 1] (by decide) (pc rfl (pc rfl pn)))⟩ ?_
   rintro K3 x319 a w res3 ⟨hS, hM⟩ hF hN3 hX3
   have hF : S_spec_IsGraph_l3 F p0_g_Size p0_g_Rows x319 = some res3 := hF
   have hS : Sl 96 [(1, (fdp b3 0)), (3, (int i64 x319))] a := hS
   have hM : Mem Nob w0 w [(true, bx b3 29 [(int i64 p0_g_Size), p0_g_Rowsv]), (false, rd p0_g_Rowsv (List.map (int i64) p0_g_Rows))] := hM
   unfold S_spec_IsGraph_l3 at hF
   refine wp_seq_k fun K470 hK470 => ?_
   refine wp_seq_k fun K472 hK472 => ?_
   refine wp_region_lit ?_
   refine st_val hS rfl rfl (by decide) (rv_move (hS.ev rfl)) fun a hS => ?_
   refine st_val hS rfl rfl (by decide) (rv_fieldAddr ty_fd_29_0 (hS.ev rfl)) fun a hS => ?_
   refine st_val hS rfl rfl (by decide) (rv_load_bx (hS.ev rfl) ty_ag_3 (hM.get 0 rfl) rfl) fun a hS => ?_
   refine st_val hS rfl rfl (by decide) (rv_lss (hS.ev rfl) (hS.ev rfl)) fun a hS => ?_
   refine wpList_nil ?_
   refine hK472 _ _ ?_
   rcases ite_some hF with ⟨hc, hF⟩ | ⟨hc, hF⟩
   ·refine cond_t hS rfl hc ?_
    refine wp_skip ?_
    refine hK470 _ _ ?_
    refine wp_seq_k fun K473 hK473 => ?_
    have hJ4 : ∀ (a : Act) (w : World), Sl 96 [(1, (fdp b3 0)), (3, (int i64 x319))] a → Mem Nob w0 w [(true, bx b3 29 [(int i64 p0_g_Size), p0_g_Rowsv]), (false, rd p0_g_Rowsv (List.map (int i64) p0_g_Rows))] → S_spec_IsGraph_j4 F x319 = some res3 → K473 a w := by
     intro a w hS hM hF
     unfold S_spec_IsGraph_j4 at hF
     refine hK473 _ _ ?_
     refine wp_region_lit ?_
     refine st_val hS rfl rfl (by decide) (rv_move (hS.ev rfl)) fun a hS => ?_
     refine st_val hS rfl rfl (by decide) (rv_add (hS.ev rfl) (hS.ev rfl)) fun a hS => ?_
     refine st_val hS rfl rfl (by decide) (rv_assign (hS.ev rfl)) fun a hS => ?_
     refine wpList_nil ?_
     cases hF
     exact hN3 _ _ _ rfl ⟨(hS.sub (sub_cons rfl (sub_cons rfl sub_nil))), (hM.pk [0, 1] (by decide) (pc rfl (pc rfl pn)))⟩
    refine wp_block ?_
    refine wp_seq_k fun K547 hK547 => ?_
    refine wp_seq_k fun K557 hK557 => ?_
    have hJ5 : ∀ (p561 : Bool) (a : Act) (w : World), Sl 96 [(1, (fdp b3 0)), (3, (int i64 x319)), (50, (Value.bool p561))] a → Mem Nob w0 w [(true, bx b3 29 [(int i64 p0_g_Size), p0_g_Rowsv]), (false, rd p0_g_Rowsv (List.map (int i64) p0_g_Rows))] → S_spec_IsGraph_j5 F p0_g_Size p0_g_Rows x319 p561 = some res3 → K557 a w := by
     intro p561 a w hS hM hF
     unfold S_spec_IsGraph_j5 at hF
     refine hK557 _ _ ?_
     rcases ite_some hF with ⟨hc, hF⟩ | ⟨hc, hF⟩
     ·refine cond_t hS rfl hc ?_
      refine wp_seq_k fun K562 hK562 => ?_
      refine wp_region_lit ?_
      refine st_val hS rfl rfl (by decide) (rv_assign (hS.ev rfl)) fun a hS => ?_
      refine wpList_nil ?_
      refine hK562 _ _ ?_
      refine wp_ret ?_
      cases hF
      have e := hX3 _ rfl
      subst e
      have hF := hF3
      cases hF
      exact hQr _ _ (r_1 hS rfl rfl ⟨rfl, hM.pk [] (by decide) pn⟩)
     ·refine cond_f hS rfl hc ?_
      refine wp_skip ?_
      refine hK547 _ _ ?_
      refine wp_seq_k fun K563 hK563 => ?_
      refine wp_region_lit ?_
      refine st_val hS rfl rfl (by decide) (rv_assign (hS.ev rfl)) fun a hS => ?_
      refine wpList_nil ?_
      refine hK563 _ _ ?_
      refine wp_block ?_
      obtain ⟨lb6, hl6, hF6⟩ := bind_some hF
      refine wp_loop_sh (fun s => S_spec_IsGraph_l6 F p0_g_Size p0_g_Rows x319 s) (fun s a w => Sl 96 [(1, (fdp b3 0)), (3, (int i64 x319)), (4, (int i64 s))] a ∧ Mem Nob w0 w [(true, bx b3 29 [(int i64 p0_g_Size), p0_g_Rowsv]), (false, rd p0_g_Rowsv (List.map (int i64) p0_g_Rows))]) hl6 ⟨(hS.sub (sub_cons rfl (sub_cons rfl (sub_cons rfl sub_nil)))), (hM.pk [0, 1] (by decide) (pc rfl (pc rfl pn)))⟩ ?_
      rintro K6 x564 a w res6 ⟨hS, hM⟩ hF hN6 hX6
      have hF : S_spec_IsGraph_l6 F p0_g_Size p0_g_Rows x319 x564 = some res6 := hF
      have hS : Sl 96 [(1, (fdp b3 0)), (3, (int i64 x319)), (4, (int i64 x564))] a := hS
      have hM : Mem Nob w0 w [(true, bx b3 29 [(int i64 p0_g_Size), p0_g_Rowsv]), (false, rd p0_g_Rowsv (List.map (int i64) p0_g_Rows))] := hM
      unfold S_spec_IsGraph_l6 at hF
      refine wp_seq_k fun K591 hK591 => ?_
      refine wp_seq_k fun K593 hK593 => ?_
      refine wp_region_lit ?_
      refine st_val hS rfl rfl (by decide) (rv_move (hS.ev rfl)) fun a hS => ?_
      refine st_val hS rfl rfl (by decide) (rv_fieldAddr ty_fd_29_0 (hS.ev rfl)) fun a hS => ?_
      refine st_val hS rfl rfl (by decide) (rv_load_bx (hS.ev rfl) ty_ag_3 (hM.get 0 rfl) rfl) fun a hS => ?_
      refine st_val hS rfl rfl (by decide) (rv_lss (hS.ev rfl) (hS.ev rfl)) fun a hS => ?_
      refine wpList_nil ?_
      refine hK593 _ _ ?_
      rcases ite_some hF with ⟨hc, hF⟩ | ⟨hc, hF⟩
      ·refine cond_t hS rfl hc ?_
       refine wp_skip ?_
       refine hK591 _ _ ?_
       refine wp_seq_k fun K594 hK594 => ?_
       refine wp_block ?_
       refine wp_seq_k fun K606 hK606 => ?_
       have hJ7 : ∀ (p611 : Bool) (a : Act) (w : World), Sl 96 [(1, (fdp b3 0)), (3, (int i64 x319)), (4, (int i64 x564)), (95, (Value.bool p611))] a → Mem Nob w0 w [(true, bx b3 29 [(int i64 p0_g_Size), p0_g_Rowsv]), (false, rd p0_g_Rowsv (List.map (int i64) p0_g_Rows))] → S_spec_IsGraph_j7 F x564 p611 = some res6 → K606 a w := by
        intro p611 a w hS hM hF
        unfold S_spec_IsGraph_j7 at hF
        refine hK606 _ _ ?_
        rcases ite_some hF with ⟨hc, hF⟩ | ⟨hc, hF⟩
        ·refine cond_t hS rfl hc ?_
         refine wp_seq_k fun K612 hK612 => ?_
         refine wp_region_lit ?_
         refine st_val hS rfl rfl (by decide) (rv_assign (hS.ev rfl)) fun a hS => ?_
         refine wpList_nil ?_
         refine hK612 _ _ ?_
         refine wp_ret ?_
         cases hF
         have e := hX6 _ rfl
         subst e
         have hF := hF6
         cases hF
         have e := hX3 _ rfl
         subst e
         have hF := hF3
         cases hF
         exact hQr _ _ (r_1 hS rfl rfl ⟨rfl, hM.pk [] (by decide) pn⟩)
        ·refine cond_f hS rfl hc ?_
         refine wp_skip ?_
         refine hK594 _ _ ?_
         refine wp_region_lit ?_
         refine st_val hS rfl rfl (by decide) (rv_move (hS.ev rfl)) fun a hS => ?_
         refine st_val hS rfl rfl (by decide) (rv_add (hS.ev rfl) (hS.ev rfl)) fun a hS => ?_
         refine st_val hS rfl rfl (by decide) (rv_assign (hS.ev rfl)) fun a hS => ?_
         refine wpList_nil ?_
         cases hF
         exact hN6 _ _ _ rfl ⟨(hS.sub (sub_cons rfl (sub_cons rfl (sub_cons rfl sub_nil)))), (hM.pk [0, 1] (by decide) (pc rfl (pc rfl pn)))⟩
       refine an_startB 39 Nob ty_mixed (by kernel_rfl) fun w hf => ?_
       have hM := hM.fra hf
       have hB := hM
       have hM := hB.reg0
       try dsimp only [ro] at hM
       refine tkB hS 0 1 (by as_aux_lemma => kernel_rfl) rfl rfl rfl hQp rfl (fun w' hC' => (rv_fieldAddr ty_fd_29_1 (hS.ev rfl))) hM.fr fun a hS => ?_
       refine tkB hS 1 3 (by as_aux_lemma => kernel_rfl) rfl rfl rfl hQp rfl (fun w' hC' => (rv_load_bx (hS.ev rfl) ty_ag_22 ((hB.fra hC').get 0 rfl) rfl)) hM.fr fun a hS => ?_
       refine tkB hS 2 7 (by as_aux_lemma => kernel_rfl) rfl rfl rfl hQp rfl (fun w' hC' => (rv_move (hS.ev rfl))) hM.fr fun a hS => ?_
       obtain ⟨x613, hx, hF⟩ := bind_some hF
       obtain ⟨hi0, hi1, hex613⟩ := idxL_some hx
       refine tkB hS 3 15 (by as_aux_lemma => kernel_rfl) rfl rfl rfl hQp rfl (fun w' hC' => (rv_indexAddr Try.underlying22 ty_el_3 (hS.ev rfl) (hS.ev rfl) (hM.get 1 rfl) hi0 (map_len hi1))) hM.fr fun a hS => ?_
       refine tkB hS 4 31 (by as_aux_lemma => kernel_rfl) rfl rfl rfl hQp rfl (fun w' hC' => (rv_load_el (hS.ev rfl) ty_ag_3 ((hB.fra hC').get 1 rfl) (mget hex613))) hM.fr fun a hS => ?_
       refine tkB hS 5 63 (by as_aux_lemma => kernel_rfl) rfl rfl rfl hQp rfl (fun w' hC' => (rv_move (hS.ev rfl))) hM.fr fun a hS => ?_
       obtain ⟨_, hx, hF⟩ := bind_some hF
       have hi0 := nnO_some hx
       refine tkB hS 6 127 (by as_aux_lemma => kernel_rfl) rfl rfl rfl hQp rfl (fun w' hC' => (rv_shr (hS.ev rfl) (hS.ev rfl) hi0)) hM.fr fun a hS => ?_
       refine tkB hS 7 255 (by as_aux_lemma => kernel_rfl) rfl rfl rfl hQp rfl (fun w' hC' => (rv_and (hS.ev rfl) (hS.ev rfl))) hM.fr fun a hS => ?_
       refine tkB hS 8 511 (by as_aux_lemma => kernel_rfl) rfl rfl rfl hQp rfl (fun w' hC' => (rv_eql (hS.ev rfl) (hS.ev rfl))) hM.fr fun a hS => ?_
       refine tkB hS 9 1023 (by as_aux_lemma => kernel_rfl) rfl rfl rfl hQp rfl (fun w' hC' => (rv_move (hS.ev rfl))) hM.fr fun a hS => ?_
       rcases ite_some hF with ⟨hc, hF⟩ | ⟨hc, hF⟩
       ·have hS := hS.setb (t := 66) rfl hc
        refine tkB hS 10 2047 (by as_aux_lemma => kernel_rfl) rfl rfl rfl hQp rfl (fun w' hC' => (rv_fieldAddr ty_fd_29_1 (hS.ev rfl))) hM.fr fun a hS => ?_
        refine tkB hS 11 4095 (by as_aux_lemma => kernel_rfl) rfl rfl rfl hQp rfl (fun w' hC' => (rv_load_bx (hS.ev rfl) ty_ag_22 ((hB.fra hC').get 0 rfl) rfl)) hM.fr fun a hS => ?_
        refine tkB hS 12 8191 (by as_aux_lemma => kernel_rfl) rfl rfl rfl hQp rfl (fun w' hC' => (rv_move (hS.ev rfl))) hM.fr fun a hS => ?_
        obtain ⟨x614, hx, hF⟩ := bind_some hF
        obtain ⟨hi0, hi1, hex614⟩ := idxL_some hx
        refine tkB hS 13 16383 (by as_aux_lemma => kernel_rfl) rfl rfl rfl hQp rfl (fun w' hC' => (rv_indexAddr Try.underlying22 ty_el_3 (hS.ev rfl) (hS.ev rfl) (hM.get 1 rfl) hi0 (map_len hi1))) hM.fr fun a hS => ?_
        refine tkB hS 14 32767 (by as_aux_lemma => kernel_rfl) rfl rfl rfl hQp rfl (fun w' hC' => (rv_load_el (hS.ev rfl) ty_ag_3 ((hB.fra hC').get 1 rfl) (mget hex614))) hM.fr fun a hS => ?_
        refine tkB hS 15 65535 (by as_aux_lemma => kernel_rfl) rfl rfl rfl hQp rfl (fun w' hC' => (rv_lss (hS.ev rfl) (hS.ev rfl))) hM.fr fun a hS => ?_
        refine tkB hS 16 131071 (by as_aux_lemma => kernel_rfl) rfl rfl rfl hQp rfl (fun w' hC' => (rv_move (hS.ev rfl))) hM.fr fun a hS => ?_
        rcases ite_some hF with ⟨hc, hF⟩ | ⟨hc, hF⟩
        ·have hS := hS.setb (t := 73) rfl hc
         refine skB hS [17, 18, 19, 20, 21, 22, 23, 24, 25] [74, 75, 76, 77, 78, 79, 80, 81, 82] 67108863 13 rfl (by as_aux_lemma => kernel_rfl) hQp hM.fr fun a hS => ?_
         refine tkB hS 26 134217727 (by as_aux_lemma => kernel_rfl) rfl rfl rfl hQp rfl (fun w' hC' => (rv_pick_t (hS.ev rfl) (hS.ev rfl))) hM.fr fun a hS => ?_
         refine tkB hS 27 268435455 (by as_aux_lemma => kernel_rfl) rfl rfl rfl hQp rfl (fun w' hC' => (rv_move (hS.ev rfl))) hM.fr fun a hS => ?_
         refine skB hS [28, 29, 30, 31, 32, 33, 34, 35, 36] [85, 86, 87, 88, 89, 90, 91, 92, 93] 137438953471 2 rfl (by as_aux_lemma => kernel_rfl) hQp hM.fr fun a hS => ?_
         refine tkB hS 37 274877906943 (by as_aux_lemma => kernel_rfl) rfl rfl rfl hQp rfl (fun w' hC' => (rv_pick_t (hS.ev rfl) (hS.ev rfl))) hM.fr fun a hS => ?_
         refine tkB hS 38 549755813887 (by as_aux_lemma => kernel_rfl) rfl rfl rfl hQp rfl (fun w' hC' => (rv_pick_t (hS.ev rfl) (hS.ev rfl))) hM.fr fun a hS => ?_
         refine an_done (by as_aux_lemma => kernel_rfl) ?_
         have hN := hM.pk [] (by decide) pn
         have hM := Mem.callo0 hB hN rfl
         exact hJ7 true _ _ (hS.sub (sub_cons rfl (sub_cons rfl (sub_cons rfl (sub_cons rfl sub_nil))))) (hM.pk [0, 1] (by decide) (pc rfl (pc rfl pn))) hF
        ·have hS := hS.setb (t := 73) rfl hc
         refine tkB hS 17 262143 (by as_aux_lemma => kernel_rfl) rfl rfl rfl hQp rfl (fun w' hC' => (rv_fieldAddr ty_fd_29_1 (hS.ev rfl))) hM.fr fun a hS => ?_
         refine tkB hS 18 524287 (by as_aux_lemma => kernel_rfl) rfl rfl rfl hQp rfl (fun w' hC' => (rv_load_bx (hS.ev rfl) ty_ag_22 ((hB.fra hC').get 0 rfl) rfl)) hM.fr fun a hS => ?_
         refine tkB hS 19 1048575 (by as_aux_lemma => kernel_rfl) rfl rfl rfl hQp rfl (fun w' hC' => (rv_move (hS.ev rfl))) hM.fr fun a hS => ?_
         obtain ⟨x615, hx, hF⟩ := bind_some hF
         obtain ⟨hi0, hi1, hex615⟩ := idxL_some hx
         refine tkB hS 20 2097151 (by as_aux_lemma => kernel_rfl) rfl rfl rfl hQp rfl (fun w' hC' => (rv_indexAddr Try.underlying22 ty_el_3 (hS.ev rfl) (hS.ev rfl) (hM.get 1 rfl) hi0 (map_len hi1))) hM.fr fun a hS => ?_
         refine tkB hS 21 4194303 (by as_aux_lemma => kernel_rfl) rfl rfl rfl hQp rfl (fun w' hC' => (rv_load_el (hS.ev rfl) ty_ag_3 ((hB.fra hC').get 1 rfl) (mget hex615))) hM.fr fun a hS => ?_
         refine tkB hS 22 8388607 (by as_aux_lemma => kernel_rfl) rfl rfl rfl hQp rfl (fun w' hC' => (rv_fieldAddr ty_fd_29_0 (hS.ev rfl))) hM.fr fun a hS => ?_
         refine tkB hS 23 16777215 (by as_aux_lemma => kernel_rfl) rfl rfl rfl hQp rfl (fun w' hC' => (rv_load_bx (hS.ev rfl) ty_ag_3 ((hB.fra hC').get 0 rfl) rfl)) hM.fr fun a hS => ?_
         obtain ⟨_, hx, hF⟩ := bind_some hF
         have hi0 := nnO_some hx
         refine tkB hS 24 33554431 (by as_aux_lemma => kernel_rfl) rfl rfl rfl hQp rfl (fun w' hC' => (rv_shl (hS.ev rfl) (hS.ev rfl) hi0)) hM.fr fun a hS => ?_
         refine tkB hS 25 67108863 (by as_aux_lemma => kernel_rfl) rfl rfl rfl hQp rfl (fun w' hC' => (rv_geq (hS.ev rfl) (hS.ev rfl))) hM.fr fun a hS => ?_
         refine tkB hS 26 134217727 (by as_aux_lemma => kernel_rfl) rfl rfl rfl hQp rfl (fun w' hC' => (rv_pick_f (hS.ev rfl) (hS.ev rfl))) hM.fr fun a hS => ?_
         refine tkB hS 27 268435455 (by as_aux_lemma => kernel_rfl) rfl rfl rfl hQp rfl (fun w' hC' => (rv_move (hS.ev rfl))) hM.fr fun a hS => ?_
         rcases ite_some hF with ⟨hc, hF⟩ | ⟨hc, hF⟩
         ·have hS := hS.setb (t := 84) rfl hc
          refine skB hS [28, 29, 30, 31, 32, 33, 34, 35, 36] [85, 86, 87, 88, 89, 90, 91, 92, 93] 137438953471 2 rfl (by as_aux_lemma => kernel_rfl) hQp hM.fr fun a hS => ?_
          refine tkB hS 37 274877906943 (by as_aux_lemma => kernel_rfl) rfl rfl rfl hQp rfl (fun w' hC' => (rv_pick_t (hS.ev rfl) (hS.ev rfl))) hM.fr fun a hS => ?_
          refine tkB hS 38 549755813887 (by as_aux_lemma => kernel_rfl) rfl rfl rfl hQp rfl (fun w' hC' => (rv_pick_t (hS.ev rfl) (hS.ev rfl))) hM.fr fun a hS => ?_
          refine an_done (by as_aux_lemma => kernel_rfl) ?_
          have hN := hM.pk [] (by decide) pn
          have hM := Mem.callo0 hB hN rfl
          exact hJ7 true _ _ (hS.sub (sub_cons rfl (sub_cons rfl (sub_cons rfl (sub_cons rfl sub_nil))))) (hM.pk [0, 1] (by decide) (pc rfl (pc rfl pn))) hF
         ·have hS := hS.setb (t := 84) rfl hc
          refine tkB hS 28 536870911 (by as_aux_lemma => kernel_rfl) rfl rfl rfl hQp rfl (fun w' hC' => (rv_fieldAddr ty_fd_29_1 (hS.ev rfl))) hM.fr fun a hS => ?_
          refine tkB hS 29 1073741823 (by as_aux_lemma => kernel_rfl) rfl rfl rfl hQp rfl (fun w' hC' => (rv_load_bx (hS.ev rfl) ty_ag_22 ((hB.fra hC').get 0 rfl) rfl)) hM.fr fun a hS => ?_
          refine tkB hS 30 2147483647 (by as_aux_lemma => kernel_rfl) rfl rfl rfl hQp rfl (fun w' hC' => (rv_move (hS.ev rfl))) hM.fr fun a hS => ?_
          obtain ⟨x616, hx, hF⟩ := bind_some hF
          obtain ⟨hi0, hi1, hex616⟩ := idxL_some hx
          refine tkB hS 31 4294967295 (by as_aux_lemma => kernel_rfl) rfl rfl rfl hQp rfl (fun w' hC' => (rv_indexAddr Try.underlying22 ty_el_3 (hS.ev rfl) (hS.ev rfl) (hM.get 1 rfl) hi0 (map_len hi1))) hM.fr fun a hS => ?_
          refine tkB hS 32 8589934591 (by as_aux_lemma => kernel_rfl) rfl rfl rfl hQp rfl (fun w' hC' => (rv_load_el (hS.ev rfl) ty_ag_3 ((hB.fra hC').get 1 rfl) (mget hex616))) hM.fr fun a hS => ?_
          refine tkB hS 33 17179869183 (by as_aux_lemma => kernel_rfl) rfl rfl rfl hQp rfl (fun w' hC' => (rv_move (hS.ev rfl))) hM.fr fun a hS => ?_
          obtain ⟨_, hx, hF⟩ := bind_some hF
          have hi0 := nnO_some hx
          refine tkB hS 34 34359738367 (by as_aux_lemma => kernel_rfl) rfl rfl rfl hQp rfl (fun w' hC' => (rv_shr (hS.ev rfl) (hS.ev rfl) hi0)) hM.fr fun a hS => ?_
          refine tkB hS 35 68719476735 (by as_aux_lemma => kernel_rfl) rfl rfl rfl hQp rfl (fun w' hC' => (rv_and (hS.ev rfl) (hS.ev rfl))) hM.fr fun a hS => ?_
          refine tkB hS 36 137438953471 (by as_aux_lemma => kernel_rfl) rfl rfl rfl hQp rfl (fun w' hC' => (rv_eql (hS.ev rfl) (hS.ev rfl))) hM.fr fun a hS => ?_
          refine tkB hS 37 274877906943 (by as_aux_lemma => kernel_rfl) rfl rfl rfl hQp rfl (fun w' hC' => (rv_pick_f (hS.ev rfl) (hS.ev rfl))) hM.fr fun a hS => ?_
          refine tkB hS 38 549755813887 (by as_aux_lemma => kernel_rfl) rfl rfl rfl hQp rfl (fun w' hC' => (rv_pick_t (hS.ev rfl) (hS.ev rfl))) hM.fr fun a hS => ?_
          refine an_done (by as_aux_lemma => kernel_rfl) ?_
          have hN := hM.pk [] (by decide) pn
          have hM := Mem.callo0 hB hN rfl
          exact hJ7 ((bAnd (shR x616 x319) 1) == 0) _ _ (hS.sub (sub_cons rfl (sub_cons rfl (sub_cons rfl (sub_cons rfl sub_nil))))) (hM.pk [0, 1] (by decide) (pc rfl (pc rfl pn))) hF
       ·have hS := hS.setb (t := 66) rfl hc
        refine skB hS [10, 11, 12, 13, 14, 15, 16, 17, 18, 19, 20, 21, 22, 23, 24, 25, 26, 27, 28, 29, 30, 31, 32, 33, 34, 35, 36, 37] [67, 68, 69, 70, 71, 72, 73, 74, 75, 76, 77, 78, 79, 80, 81, 82, 83, 84, 85, 86, 87, 88, 89, 90, 91, 92, 93, 94] 274877906943 1 rfl (by as_aux_lemma => kernel_rfl) hQp hM.fr fun a hS => ?_
        refine tkB hS 38 549755813887 (by as_aux_lemma => kernel_rfl) rfl rfl rfl hQp rfl (fun w' hC' => (rv_pick_f (hS.ev rfl) (hS.ev rfl))) hM.fr fun a hS => ?_
        refine an_done (by as_aux_lemma => kernel_rfl) ?_
        have hN := hM.pk [] (by decide) pn
        have hM := Mem.callo0 hB hN rfl
        exact hJ7 false _ _ (hS.sub (sub_cons rfl (sub_cons rfl (sub_cons rfl (sub_cons rfl sub_nil))))) (hM.pk [0, 1] (by decide) (pc rfl (pc rfl pn))) hF
      ·refine cond_f hS rfl hc ?_
       refine wp_exit ?_
       cases hF
       exact hJ4 _ _ (hS.sub (sub_cons rfl (sub_cons rfl sub_nil))) (hM.pk [0, 1] (by decide) (pc rfl (pc rfl pn))) (by have e := hX6 _ rfl; subst e; exact hF6)
    refine an_startB 28 Nob ty_mixed (by kernel_rfl) fun w hf => ?_
    have hM := hM.fra hf
    have hB := hM
    have hM := hB.reg0
    try dsimp only [ro] at hM
    refine tkB hS 0 1 (by as_aux_lemma => kernel_rfl) rfl rfl rfl hQp rfl (fun w' hC' => (rv_fieldAddr ty_fd_29_1 (hS.ev rfl))) hM.fr fun a hS => ?_
    refine tkB hS 1 3 (by as_aux_lemma => kernel_rfl) rfl rfl rfl hQp rfl (fun w' hC' => (rv_load_bx (hS.ev rfl) ty_ag_22 ((hB.fra hC').get 0 rfl) rfl)) hM.fr fun a hS => ?_
    refine tkB hS 2 7 (by as_aux_lemma => kernel_rfl) rfl rfl rfl hQp rfl (fun w' hC' => (rv_move (hS.ev rfl))) hM.fr fun a hS => ?_
    obtain ⟨x617, hx, hF⟩ := bind_some hF
    obtain ⟨hi0, hi1, hex617⟩ := idxL_some hx
    refine tkB hS 3 15 (by as_aux_lemma => kernel_rfl) rfl rfl rfl hQp rfl (fun w' hC' => (rv_indexAddr Try.underlying22 ty_el_3 (hS.ev rfl) (hS.ev rfl) (hM.get 1 rfl) hi0 (map_len hi1))) hM.fr fun a hS => ?_
    refine tkB hS 4 31 (by as_aux_lemma => kernel_rfl) rfl rfl rfl hQp rfl (fun w' hC' => (rv_load_el (hS.ev rfl) ty_ag_3 ((hB.fra hC').get 1 rfl) (mget hex617))) hM.fr fun a hS => ?_
    refine tkB hS 5 63 (by as_aux_lemma => kernel_rfl) rfl rfl rfl hQp rfl (fun w' hC' => (rv_lss (hS.ev rfl) (hS.ev rfl))) hM.fr fun a hS => ?_
    refine tkB hS 6 127 (by as_aux_lemma => kernel_rfl) rfl rfl rfl hQp rfl (fun w' hC' => (rv_move (hS.ev rfl))) hM.fr fun a hS => ?_
    rcases ite_some hF with ⟨hc, hF⟩ | ⟨hc, hF⟩
    ·have hS := hS.setb (t := 29) rfl hc
     refine skB hS [7, 8, 9, 10, 11, 12, 13, 14, 15] [30, 31, 32, 33, 34, 35, 36, 37, 38] 65535 12 rfl (by as_aux_lemma => kernel_rfl) hQp hM.fr fun a hS => ?_
     refine tkB hS 16 131071 (by as_aux_lemma => kernel_rfl) rfl rfl rfl hQp rfl (fun w' hC' => (rv_pick_t (hS.ev rfl) (hS.ev rfl))) hM.fr fun a hS => ?_
     refine tkB hS 17 262143 (by as_aux_lemma => kernel_rfl) rfl rfl rfl hQp rfl (fun w' hC' => (rv_move (hS.ev rfl))) hM.fr fun a hS => ?_
     refine skB hS [18, 19, 20, 21, 22, 23, 24, 25, 26] [41, 42, 43, 44, 45, 46, 47, 48, 49] 134217727 1 rfl (by as_aux_lemma => kernel_rfl) hQp hM.fr fun a hS => ?_
     refine tkB hS 27 268435455 (by as_aux_lemma => kernel_rfl) rfl rfl rfl hQp rfl (fun w' hC' => (rv_pick_t (hS.ev rfl) (hS.ev rfl))) hM.fr fun a hS => ?_
     refine an_done (by as_aux_lemma => kernel_rfl) ?_
     have hN := hM.pk [] (by decide) pn
     have hM := Mem.callo0 hB hN rfl
     exact hJ5 true _ _ (hS.sub (sub_cons rfl (sub_cons rfl (sub_cons rfl sub_nil)))) (hM.pk [0, 1] (by decide) (pc rfl (pc rfl pn))) hF
    ·have hS := hS.setb (t := 29) rfl hc
     refine tkB hS 7 255 (by as_aux_lemma => kernel_rfl) rfl rfl rfl hQp rfl (fun w' hC' => (rv_fieldAddr ty_fd_29_1 (hS.ev rfl))) hM.fr fun a hS => ?_
     refine tkB hS 8 511 (by as_aux_lemma => kernel_rfl) rfl rfl rfl hQp rfl (fun w' hC' => (rv_load_bx (hS.ev rfl) ty_ag_22 ((hB.fra hC').get 0 rfl) rfl)) hM.fr fun a hS => ?_
     refine tkB hS 9 1023 (by as_aux_lemma => kernel_rfl) rfl rfl rfl hQp rfl (fun w' hC' => (rv_move (hS.ev rfl))) hM.fr fun a hS => ?_
     obtain ⟨x618, hx, hF⟩ := bind_some hF
     obtain ⟨hi0, hi1, hex618⟩ := idxL_some hx
     refine tkB hS 10 2047 (by as_aux_lemma => kernel_rfl) rfl rfl rfl hQp rfl (fun w' hC' => (rv_indexAddr Try.underlying22 ty_el_3 (hS.ev rfl) (hS.ev rfl) (hM.get 1 rfl) hi0 (map_len hi1))) hM.fr fun a hS => ?_
     refine tkB hS 11 4095 (by as_aux_lemma => kernel_rfl) rfl rfl rfl hQp rfl (fun w' hC' => (rv_load_el (hS.ev rfl) ty_ag_3 ((hB.fra hC').get 1 rfl) (mget hex618))) hM.fr fun a hS => ?_
     refine tkB hS 12 8191 (by as_aux_lemma => kernel_rfl) rfl rfl rfl hQp rfl (fun w' hC' => (rv_fieldAddr ty_fd_29_0 (hS.ev rfl))) hM.fr fun a hS => ?_
     refine tkB hS 13 16383 (by as_aux_lemma => kernel_rfl) rfl rfl rfl hQp rfl (fun w' hC' => (rv_load_bx (hS.ev rfl) ty_ag_3 ((hB.fra hC').get 0 rfl) rfl)) hM.fr fun a hS => ?_
     obtain ⟨_, hx, hF⟩ := bind_some hF
     have hi0 := nnO_some hx
     refine tkB hS 14 32767 (by as_aux_lemma => kernel_rfl) rfl rfl rfl hQp rfl (fun w' hC' => (rv_shl (hS.ev rfl) (hS.ev rfl) hi0)) hM.fr fun a hS => ?_
     refine tkB hS 15 65535 (by as_aux_lemma => kernel_rfl) rfl rfl rfl hQp rfl (fun w' hC' => (rv_geq (hS.ev rfl) (hS.ev rfl))) hM.fr fun a hS => ?_
     refine tkB hS 16 131071 (by as_aux_lemma => kernel_rfl) rfl rfl rfl hQp rfl (fun w' hC' => (rv_pick_f (hS.ev rfl) (hS.ev rfl))) hM.fr fun a hS => ?_
     refine tkB hS 17 262143 (by as_aux_lemma => kernel_rfl) rfl rfl rfl hQp rfl (fun w' hC' => (rv_move (hS.ev rfl))) hM.fr fun a hS => ?_
     rcases ite_some hF with ⟨hc, hF⟩ | ⟨hc, hF⟩
     ·have hS := hS.setb (t := 40) rfl hc
      refine skB hS [18, 19, 20, 21, 22, 23, 24, 25, 26] [41, 42, 43, 44, 45, 46, 47, 48, 49] 134217727 1 rfl (by as_aux_lemma => kernel_rfl) hQp hM.fr fun a hS => ?_
      refine tkB hS 27 268435455 (by as_aux_lemma => kernel_rfl) rfl rfl rfl hQp rfl (fun w' hC' => (rv_pick_t (hS.ev rfl) (hS.ev rfl))) hM.fr fun a hS => ?_
      refine an_done (by as_aux_lemma => kernel_rfl) ?_
      have hN := hM.pk [] (by decide) pn
      have hM := Mem.callo0 hB hN rfl
      exact hJ5 true _ _ (hS.sub (sub_cons rfl (sub_cons rfl (sub_cons rfl sub_nil)))) (hM.pk [0, 1] (by decide) (pc rfl (pc rfl pn))) hF
     ·have hS := hS.setb (t := 40) rfl hc
      refine tkB hS 18 524287 (by as_aux_lemma => kernel_rfl) rfl rfl rfl hQp rfl (fun w' hC' => (rv_fieldAddr ty_fd_29_1 (hS.ev rfl))) hM.fr fun a hS => ?_
      refine tkB hS 19 1048575 (by as_aux_lemma => kernel_rfl) rfl rfl rfl hQp rfl (fun w' hC' => (rv_load_bx (hS.ev rfl) ty_ag_22 ((hB.fra hC').get 0 rfl) rfl)) hM.fr fun a hS => ?_
      refine tkB hS 20 2097151 (by as_aux_lemma => kernel_rfl) rfl rfl rfl hQp rfl (fun w' hC' => (rv_move (hS.ev rfl))) hM.fr fun a hS => ?_
      obtain ⟨x619, hx, hF⟩ := bind_some hF
      obtain ⟨hi0, hi1, hex619⟩ := idxL_some hx
      refine tkB hS 21 4194303 (by as_aux_lemma => kernel_rfl) rfl rfl rfl hQp rfl (fun w' hC' => (rv_indexAddr Try.underlying22 ty_el_3 (hS.ev rfl) (hS.ev rfl) (hM.get 1 rfl) hi0 (map_len hi1))) hM.fr fun a hS => ?_
      refine tkB hS 22 8388607 (by as_aux_lemma => kernel_rfl) rfl rfl rfl hQp rfl (fun w' hC' => (rv_load_el (hS.ev rfl) ty_ag_3 ((hB.fra hC').get 1 rfl) (mget hex619))) hM.fr fun a hS => ?_
      refine tkB hS 23 16777215 (by as_aux_lemma => kernel_rfl) rfl rfl rfl hQp rfl (fun w' hC' => (rv_move (hS.ev rfl))) hM.fr fun a hS => ?_
      obtain ⟨_, hx, hF⟩ := bind_some hF
      have hi0 := nnO_some hx
      refine tkB hS 24 33554431 (by as_aux_lemma => kernel_rfl) rfl rfl rfl hQp rfl (fun w' hC' => (rv_shr (hS.ev rfl) (hS.ev rfl) hi0)) hM.fr fun a hS => ?_
      refine tkB hS 25 67108863 (by as_aux_lemma => kernel_rfl) rfl rfl rfl hQp rfl (fun w' hC' => (rv_and (hS.ev rfl) (hS.ev rfl))) hM.fr fun a hS => ?_
      refine tkB hS 26 134217727 (by as_aux_lemma => kernel_rfl) rfl rfl rfl hQp rfl (fun w' hC' => (rv_eql (hS.ev rfl) (hS.ev rfl))) hM.fr fun a hS => ?_
      refine tkB hS 27 268435455 (by as_aux_lemma => kernel_rfl) rfl rfl rfl hQp rfl (fun w' hC' => (rv_pick_f (hS.ev rfl) (hS.ev rfl))) hM.fr fun a hS => ?_
      refine an_done (by as_aux_lemma => kernel_rfl) ?_
      have hN := hM.pk [] (by decide) pn
      have hM := Mem.callo0 hB hN rfl
      exact hJ5 ((bAnd (shR x619 x319) 1) == 1) _ _ (hS.sub (sub_cons rfl (sub_cons rfl (sub_cons rfl sub_nil)))) (hM.pk [0, 1] (by decide) (pc rfl (pc rfl pn))) hF
   ·refine cond_f hS rfl hc ?_
    refine wp_exit ?_
    cases hF
    exact hJ2 _ _ (hS.sub sub_nil) (hM.pk [] (by decide) pn) (by have e := hX3 _ rfl; subst e; exact hF3)
 refine wp_region_lit ?_
 refine st_val hS rfl rfl (by decide) (rv_fieldAddr ty_fd_29_0 (hS.ev rfl)) fun a hS => ?_
 refine st_val hS rfl rfl (by decide) (rv_load_bx (hS.ev rfl) ty_ag_3 (hM.get 0 rfl) rfl) fun a hS => ?_
 obtain ⟨r620, hr, hF⟩ := bind_some hF
 refine st_wp hS rfl (wp_call hS rfl rfl (by decide) fn_ok_43 rfl (c_spec_l1In F p0_g_Size 1 7 hr _) fun v w a hK hS => ?_)
 obtain ⟨rfl, hN⟩ := hK
 have hM := hM.fra hN.fr
 refine st_val hS rfl rfl (by decide) (rv_not (hS.ev rfl)) fun a hS => ?_
 refine st_val hS rfl rfl (by decide) (rv_move (hS.ev rfl)) fun a hS => ?_
 rcases ite_some hF with ⟨hc, hF⟩ | ⟨hc, hF⟩
 ·have hS := hS.setb (t := 9) rfl hc
  refine st_skip hS rfl rfl (by decide) fun a hS => ?_
  refine st_skip hS rfl rfl (by decide) fun a hS => ?_
  refine st_skip hS rfl rfl (by decide) fun a hS => ?_
  refine st_skip hS rfl rfl (by decide) fun a hS => ?_
  refine st_skip hS rfl rfl (by decide) fun a hS => ?_
  refine st_skip hS rfl rfl (by decide) fun a hS => ?_
  refine st_val hS rfl rfl (by decide) (rv_pick_t (hS.ev rfl) (hS.ev rfl)) fun a hS => ?_
  refine wpList_nil ?_
  exact hJ1 true _ _ (hS.sub (sub_cons rfl (sub_cons rfl sub_nil))) (hM.pk [0, 1] (by decide) (pc rfl (pc rfl pn))) hF
 ·have hS := hS.setb (t := 9) rfl hc
  refine st_val hS rfl rfl (by decide) (rv_fieldAddr ty_fd_29_1 (hS.ev rfl)) fun a hS => ?_
  refine st_val hS rfl rfl (by decide) (rv_load_bx (hS.ev rfl) ty_ag_22 (hM.get 0 rfl) rfl) fun a hS => ?_
  refine st_val hS rfl rfl (by decide) (rv_len_rowM Try.underlying22 (hS.ev rfl) (hM.get 1 rfl)) fun a hS => ?_
  refine st_val hS rfl rfl (by decide) (rv_fieldAddr ty_fd_29_0 (hS.ev rfl)) fun a hS => ?_
  refine st_val hS rfl rfl (by decide) (rv_load_bx (hS.ev rfl) ty_ag_3 (hM.get 0 rfl) rfl) fun a hS => ?_
  refine st_val hS rfl rfl (by decide) (rv_neq (hS.ev rfl) (hS.ev rfl)) fun a hS => ?_
  refine st_val hS rfl rfl (by decide) (rv_pick_f (hS.ev rfl) (hS.ev rfl)) fun a hS => ?_
  refine wpList_nil ?_
  exact hJ1 ((p0_g_Rows.length : Int) != p0_g_Size) _ _ (hS.sub (sub_cons rfl (sub_cons rfl sub_nil))) (hM.pk [0, 1] (by decide) (pc rfl (pc rfl pn))) hF


theorem c_spec_SetOf (F : Nat) (p0_l : List Int) (p0_lv : Value) {r : Int × Bool} (hF : S_spec_SetOf F p0_l = some r) (w0 : World) (h0 : RdRow w0 p0_lv (List.map (int i64) p0_l)) :
    Calls Try.prog 39 [p0_lv].toArray w0 (retPost fun v w' => v = (Value.tuple #[(int i64 r.1), (Value.bool r.2)]) ∧ Mem Nob w0 w' []) := by
 have hM : Mem Nob w0 w0 [(false, rd p0_lv (List.map (int i64) p0_l))] := (Mem.rcons (Mem.nil w0) h0 (by simp))
 refine enter2 Try.func39 rfl rfl rfl fun Q a hQr hQn hQp hS => ?_
 have hS : Sl 36 [(0, p0_lv)] a := hS
 unfold S_spec_SetOf at hF
 refine wp_seq_k fun K1 hK1 => ?_
 refine wp_region_lit ?_
 refine st_val hS rfl rfl (by decide) (rv_assign (hS.ev rfl)) fun a hS => ?_
 refine st_val hS rfl rfl (by decide) (rv_assign (hS.ev rfl)) fun a hS => ?_
 refine wpList_nil ?_
 refine hK1 _ _ ?_
 refine wp_seq_k fun K2 hK2 => ?_
 refine wp_region_lit ?_
 refine st_val hS rfl rfl (by decide) (rv_assign (hS.ev rfl)) fun a hS => ?_
 refine wpList_nil ?_
 refine hK2 _ _ ?_
 refine wp_seq_k fun K3 hK3 => ?_
 have hJ1 : ∀ (x95 : Int) (a : Act) (w : World), Sl 36 [(4, (int i64 x95))] a → Mem Nob w0 w [] → S_spec_SetOf_j1 F x95 = some r → K3 a w := by
  intro x95 a w hS hM hF
  unfold S_spec_SetOf_j1 at hF
  refine hK3 _ _ ?_
  refine wp_seq_k fun K96 hK96 => ?_
  refine wp_region_lit ?_
  refine st_val hS rfl rfl (by decide) (rv_move (hS.ev rfl)) fun a hS => ?_
  refine st_val hS rfl rfl (by decide) (rv_assign (hS.ev rfl)) fun a hS => ?_
  refine st_val hS rfl rfl (by decide) (rv_assign (hS.ev rfl)) fun a hS => ?_
  refine wpList_nil ?_
  refine hK96 _ _ ?_
  refine wp_ret ?_
  cases hF
  exact hQr _ _ (r_2 hS rfl rfl rfl ⟨rfl, hM.pk [] (by decide) pn⟩)
 refine wp_seq_k fun K97 hK97 => ?_
 refine wp_region_lit ?_
 refine st_val hS rfl rfl (by decide) (rv_assign (hS.ev rfl)) fun a hS => ?_
 refine wpList_nil ?_
 refine hK97 _ _ ?_
 refine wp_block ?_
 obtain ⟨lb2, hl2, hF2⟩ := bind_some hF
 refine wp_loop_sh (fun s => S_spec_SetOf_l2 F p0_l s.1 s.2) (fun s a w => Sl 36 [(0, p0_lv), (4, (int i64 s.1)), (5, (int i64 s.2))] a ∧ Mem Nob w0 w [(false, rd p0_lv (List.map (int i64) p0_l))]) hl2 ⟨(hS.sub (sub_cons rfl (sub_cons rfl (sub_cons rfl sub_nil)))), (hM.pk [0] (by decide) (pc rfl pn))⟩ ?_
 rintro K2 ⟨x98, x99⟩ a w res2 ⟨hS, hM⟩ hF hN2 hX2
 have hF : S_spec_SetOf_l2 F p0_l x98 x99 = some res2 := hF
 have hS : Sl 36 [(0, p0_lv), (4, (int i64 x98)), (5, (int i64 x99))] a := hS
 have hM : Mem Nob w0 w [(false, rd p0_lv (List.map (int i64) p0_l))] := hM
 unfold S_spec_SetOf_l2 at hF
 refine wp_seq_k fun K144 hK144 => ?_
 refine wp_seq_k fun K146 hK146 => ?_
 refine wp_region_lit ?_
 refine st_val hS rfl rfl (by decide) (rv_move (hS.ev rfl)) fun a hS => ?_
 refine st_val hS rfl rfl (by decide) (rv_move (hS.ev rfl)) fun a hS => ?_
 refine st_val hS rfl rfl (by decide) (rv_len_rowM Try.underlying22 (hS.ev rfl) (hM.get 0 rfl)) fun a hS => ?_
 refine st_val hS rfl rfl (by decide) (rv_lss (hS.ev rfl) (hS.ev rfl)) fun a hS => ?_
 refine wpList_nil ?_
 refine hK146 _ _ ?_
 rcases ite_some hF with ⟨hc, hF⟩ | ⟨hc, hF⟩
 ·refine cond_t hS rfl hc ?_
  refine wp_skip ?_
  refine hK144 _ _ ?_
  refine wp_seq_k fun K147 hK147 => ?_
  refine wp_block ?_
  refine wp_seq_k fun K168 hK168 => ?_
  refine wp_seq_k fun K178 hK178 => ?_
  have hJ3 : ∀ (p182 : Bool) (a : Act) (w : World), Sl 36 [(0, p0_lv), (4, (int i64 x98)), (5, (int i64 x99)), (27, (Value.bool p182))] a → Mem Nob w0 w [(false, rd p0_lv (List.map (int i64) p0_l))] → S_spec_SetOf_j3 F p0_l x98 x99 p182 = some res2 → K178 a w := by
   intro p182 a w hS hM hF
   unfold S_spec_SetOf_j3 at hF
   refine hK178 _ _ ?_
   rcases ite_some hF with ⟨hc, hF⟩ | ⟨hc, hF⟩
   ·refine cond_t hS rfl hc ?_
    refine wp_seq_k fun K183 hK183 => ?_
    refine wp_region_lit ?_
    refine st_val hS rfl rfl (by decide) (rv_assign (hS.ev rfl)) fun a hS => ?_
    refine st_val hS rfl rfl (by decide) (rv_assign (hS.ev rfl)) fun a hS => ?_
    refine wpList_nil ?_
    refine hK183 _ _ ?_
    refine wp_ret ?_
    cases hF
    have e := hX2 _ rfl
    subst e
    have hF := hF2
    cases hF
    exact hQr _ _ (r_2 hS rfl rfl rfl ⟨rfl, hM.pk [] (by decide) pn⟩)
   ·refine cond_f hS rfl hc ?_
    refine wp_skip ?_
    refine hK168 _ _ ?_
    refine wp_region_lit ?_
    refine st_val hS rfl rfl (by decide) (rv_move (hS.ev rfl)) fun a hS => ?_
    refine st_val hS rfl rfl (by decide) (rv_move (hS.ev rfl)) fun a hS => ?_
    refine st_val hS rfl rfl (by decide) (rv_move (hS.ev rfl)) fun a hS => ?_
    obtain ⟨x184, hx, hF⟩ := bind_some hF
    obtain ⟨hi0, hi1, hex184⟩ := idxL_some hx
    refine st_val hS rfl rfl (by decide) (rv_indexAddr Try.underlying22 ty_el_3 (hS.ev rfl) (hS.ev rfl) (hM.get 0 rfl) hi0 (map_len hi1)) fun a hS => ?_
    refine st_val hS rfl rfl (by decide) (rv_load_el (hS.ev rfl) ty_ag_3 (hM.get 0 rfl) (mget hex184)) fun a hS => ?_
    obtain ⟨_, hx, hF⟩ := bind_some hF
    have hi0 := nnO_some hx
    refine st_val hS rfl rfl (by decide) (rv_shl (hS.ev rfl) (hS.ev rfl) hi0) fun a hS => ?_
    refine st_val hS rfl rfl (by decide) (rv_add (hS.ev rfl) (hS.ev rfl)) fun a hS => ?_
    refine st_val hS rfl rfl (by decide) (rv_assign (hS.ev rfl)) fun a hS => ?_
    refine wpList_nil ?_
    refine hK147 _ _ ?_
    have hS : Sl 36 [(0, p0_lv), (4, (int i64 (i64.wrap (x98 + (shL 1 x184))))), (5, (int i64 x99))] a := hS.sub (sub_cons rfl (sub_cons rfl (sub_cons rfl sub_nil)))
    refine wp_region_lit ?_
    refine st_val hS rfl rfl (by decide) (rv_move (hS.ev rfl)) fun a hS => ?_
    refine st_val hS rfl rfl (by decide) (rv_add (hS.ev rfl) (hS.ev rfl)) fun a hS => ?_
    refine st_val hS rfl rfl (by decide) (rv_assign (hS.ev rfl)) fun a hS => ?_
    refine wpList_nil ?_
    cases hF
    exact hN2 _ _ _ rfl ⟨(hS.sub (sub_cons rfl (sub_cons rfl (sub_cons rfl sub_nil)))), (hM.pk [0] (by decide) (pc rfl pn))⟩
  refine wp_region_lit ?_
  refine st_val hS rfl rfl (by decide) (rv_move (hS.ev rfl)) fun a hS => ?_
  refine st_val hS rfl rfl (by decide) (rv_move (hS.ev rfl)) fun a hS => ?_
  obtain ⟨x185, hx, hF⟩ := bind_some hF
  obtain ⟨hi0, hi1, hex185⟩ := idxL_some hx
  refine st_val hS rfl rfl (by decide) (rv_indexAddr Try.underlying22 ty_el_3 (hS.ev rfl) (hS.ev rfl) (hM.get 0 rfl) hi0 (map_len hi1)) fun a hS => ?_
  refine st_val hS rfl rfl (by decide) (rv_load_el (hS.ev rfl) ty_ag_3 (hM.get 0 rfl) (mget hex185)) fun a hS => ?_
  obtain ⟨r186, hr, hF⟩ := bind_some hF
  refine st_wp hS rfl (wp_call hS rfl rfl (by decide) fn_ok_43 rfl (c_spec_l1In F x185 0 6 hr _) fun v w a hK hS => ?_)
  obtain ⟨rfl, hN⟩ := hK
  have hM := hM.fra hN.fr
  refine st_val hS rfl rfl (by decide) (rv_not (hS.ev rfl)) fun a hS => ?_
  refine st_val hS rfl rfl (by decide) (rv_move (hS.ev rfl)) fun a hS => ?_
  rcases ite_some hF with ⟨hc, hF⟩ | ⟨hc, hF⟩
  ·have hS := hS.setb (t := 18) rfl hc
   refine st_skip hS rfl rfl (by decide) fun a hS => ?_
   refine st_skip hS rfl rfl (by decide) fun a hS => ?_
   refine st_skip hS rfl rfl (by decide) fun a hS => ?_
   refine st_skip hS rfl rfl (by decide) fun a hS => ?_
   refine st_skip hS rfl rfl (by decide) fun a hS => ?_
   refine st_skip hS rfl rfl (by decide) fun a hS => ?_
   refine st_skip hS rfl rfl (by decide) fun a hS => ?_
   refine st_skip hS rfl rfl (by decide) fun a hS => ?_
   refine st_val hS rfl rfl (by decide) (rv_pick_t (hS.ev rfl) (hS.ev rfl)) fun a hS => ?_
   refine wpList_nil ?_
   exact hJ3 true _ _ (hS.sub (sub_cons rfl (sub_cons rfl (sub_cons rfl (sub_cons rfl sub_nil))))) (hM.pk [0] (by decide) (pc rfl pn)) hF
  ·have hS := hS.setb (t := 18) rfl hc
   refine st_val hS rfl rfl (by decide) (rv_move (hS.ev rfl)) fun a hS => ?_
   refine st_val hS rfl rfl (by decide) (rv_move (hS.ev rfl)) fun a hS => ?_
   refine st_val hS rfl rfl (by decide) (rv_move (hS.ev rfl)) fun a hS => ?_
   obtain ⟨x187, hx, hF⟩ := bind_some hF
   obtain ⟨hi0, hi1, hex187⟩ := idxL_some hx
   refine st_val hS rfl rfl (by decide) (rv_indexAddr Try.underlying22 ty_el_3 (hS.ev rfl) (hS.ev rfl) (hM.get 0 rfl) hi0 (map_len hi1)) fun a hS => ?_
   refine st_val hS rfl rfl (by decide) (rv_load_el (hS.ev rfl) ty_ag_3 (hM.get 0 rfl) (mget hex187)) fun a hS => ?_
   obtain ⟨_, hx, hF⟩ := bind_some hF
   have hi0 := nnO_some hx
   refine st_val hS rfl rfl (by decide) (rv_shr (hS.ev rfl) (hS.ev rfl) hi0) fun a hS => ?_
   refine st_val hS rfl rfl (by decide) (rv_and (hS.ev rfl) (hS.ev rfl)) fun a hS => ?_
   refine st_val hS rfl rfl (by decide) (rv_eql (hS.ev rfl) (hS.ev rfl)) fun a hS => ?_
   refine st_val hS rfl rfl (by decide) (rv_pick_f (hS.ev rfl) (hS.ev rfl)) fun a hS => ?_
   refine wpList_nil ?_
   exact hJ3 ((bAnd (shR x98 x187) 1) == 1) _ _ (hS.sub (sub_cons rfl (sub_cons rfl (sub_cons rfl (sub_cons rfl sub_nil))))) (hM.pk [0] (by decide) (pc rfl pn)) hF
 ·refine cond_f hS rfl hc ?_
  refine wp_exit ?_
  cases hF
  exact hJ1 x98 _ _ (hS.sub (sub_cons rfl sub_nil)) (hM.pk [] (by decide) pn) (by have e := hX2 _ rfl; subst e; exact hF2)


theorem c_spec_IsSet (F : Nat) (p0_g_Size : Int) (p0_g_Rows : List Int) (p1_set : Int) (p0_g_Rowsv : Value) {r : Bool} (hF : S_spec_IsSet F p0_g_Size p0_g_Rows p1_set = some r) (w0 : World) (h0 : RdRow w0 p0_g_Rowsv (List.map (int i64) p0_g_Rows)) :
    Calls Try.prog 40 [(Value.agg #[(int i64 p0_g_Size), p0_g_Rowsv]), (int i64 p1_set)].toArray w0 (retPost fun v w' => v = (Value.bool r) ∧ Mem Nob w0 w' []) := by
 have hM : Mem Nob w0 w0 [(false, rd p0_g_Rowsv (List.map (int i64) p0_g_Rows))] := (Mem.rcons (Mem.nil w0) h0 (by simp))
 refine enter2 Try.func40 rfl rfl rfl fun Q a hQr hQn hQp hS => ?_
 have hS : Sl 18 [(0, (Value.agg #[(int i64 p0_g_Size), p0_g_Rowsv])), (1, (int i64 p1_set))] a := hS
 unfold S_spec_IsSet at hF
 refine wp_seq_k fun K1 hK1 => ?_
 refine wp_region_lit ?_
 obtain ⟨b3, w, hr, hM⟩ := hM.boxE (ρ := a.eval) (dst := some 2) (ty := _) (pos := _) (af := _) (gd := _) (x := .tmp 0) (T := 29) [(int i64 p0_g_Size), p0_g_Rowsv] (hS.ev rfl) rfl
 refine st_val hS rfl rfl (by decide) hr fun a hS => ?_
 refine st_val hS rfl rfl (by decide) (rv_assign (hS.ev rfl)) fun a hS => ?_
 refine wpList_nil ?_
 refine hK1 _ _ ?_
 refine wp_seq_k fun K4 hK4 => ?_
 have hJ1 : ∀ (p6 : Bool) (a : Act) (w : World), Sl 18 [(4, (Value.bool p6))] a → Mem Nob w0 w [] → S_spec_IsSet_j1 F p6 = some r → K4 a w := by
  intro p6 a w hS hM hF
  unfold S_spec_IsSet_j1 at hF
  refine hK4 _ _ ?_
  refine wp_ret ?_
  cases hF
  exact hQr _ _ (r_1 hS rfl rfl ⟨rfl, hM.pk [] (by decide) pn⟩)
 refine wp_region_lit ?_
 refine st_val hS rfl rfl (by decide) (rv_load_agg (hS.ev rfl) ty_ag_29 (hM.get 0 rfl) ty_sz_29) fun a hS => ?_
 obtain ⟨r7, hr, hF⟩ := bind_some hF
 refine st_wp hS rfl (wp_call hS rfl rfl (by decide) fn_ok_33 rfl (c_spec_IsGraph F p0_g_Size p0_g_Rows p0_g_Rowsv hr _ (hM.get 1 rfl)) fun v w a hK hS => ?_)
 obtain ⟨rfl, hN⟩ := hK
 have hM := hM.fra hN.fr
 refine st_val hS rfl rfl (by decide) (rv_move (hS.ev rfl)) fun a hS => ?_
 rcases ite_some hF with ⟨hc, hF⟩ | ⟨hc, hF⟩
 ·have hS := hS.setb (t := 7) rfl hc
  refine st_val hS rfl rfl (by decide) (rv_move (hS.ev rfl)) fun a hS => ?_
  refine st_val hS rfl rfl (by decide) (rv_geq (hS.ev rfl) (hS.ev rfl)) fun a hS => ?_
  refine st_val hS rfl rfl (by decide) (rv_pick_t (hS.ev rfl) (hS.ev rfl)) fun a hS => ?_
  refine st_val hS rfl rfl (by decide) (rv_move (hS.ev rfl)) fun a hS => ?_
  rcases ite_some hF with ⟨hc, hF⟩ | ⟨hc, hF⟩
  ·have hS := hS.setb (t := 11) rfl hc
   refine st_val hS rfl rfl (by decide) (rv_move (hS.ev rfl)) fun a hS => ?_
   refine st_val hS rfl rfl (by decide) (rv_fieldAddr ty_fd_29_0 (hS.ev rfl)) fun a hS => ?_
   refine st_val hS rfl rfl (by decide) (rv_load_bx (hS.ev rfl) ty_ag_3 (hM.get 0 rfl) rfl) fun a hS => ?_
   obtain ⟨_, hx, hF⟩ := bind_some hF
   have hi0 := nnO_some hx
   refine st_val hS rfl rfl (by decide) (rv_shl (hS.ev rfl) (hS.ev rfl) hi0) fun a hS => ?_
   refine st_val hS rfl rfl (by decide) (rv_lss (hS.ev rfl) (hS.ev rfl)) fun a hS => ?_
   refine st_val hS rfl rfl (by decide) (rv_pick_t (hS.ev rfl) (hS.ev rfl)) fun a hS => ?_
   refine st_val hS rfl rfl (by decide) (rv_assign (hS.ev rfl)) fun a hS => ?_
   refine wpList_nil ?_
   exact hJ1 (decide (p1_set < (shL 1 p0_g_Size))) _ _ (hS.sub (sub_cons rfl sub_nil)) (hM.pk [] (by decide) pn) hF
  ·have hS := hS.setb (t := 11) rfl hc
   refine st_skip hS rfl rfl (by decide) fun a hS => ?_
   refine st_skip hS rfl rfl (by decide) fun a hS => ?_
   refine st_skip hS rfl rfl (by decide) fun a hS => ?_
   refine st_skip hS rfl rfl (by decide) fun a hS => ?_
   refine st_skip hS rfl rfl (by decide) fun a hS => ?_
   refine st_val hS rfl rfl (by decide) (rv_pick_f (hS.ev rfl) (hS.ev rfl)) fun a hS => ?_
   refine st_val hS rfl rfl (by decide) (rv_assign (hS.ev rfl)) fun a hS => ?_
   refine wpList_nil ?_
   exact hJ1 false _ _ (hS.sub (sub_cons rfl sub_nil)) (hM.pk [] (by decide) pn) hF
 ·have hS := hS.setb (t := 7) rfl hc
  refine st_skip hS rfl rfl (by decide) fun a hS => ?_
  refine st_skip hS rfl rfl (by decide) fun a hS => ?_
  refine st_val hS rfl rfl (by decide) (rv_pick_f (hS.ev rfl) (hS.ev rfl)) fun a hS => ?_
  refine st_val hS rfl rfl (by decide) (rv_move (hS.ev rfl)) fun a hS => ?_
  refine st_skip hS rfl rfl (by decide) fun a hS => ?_
  refine st_skip hS rfl rfl (by decide) fun a hS => ?_
  refine st_skip hS rfl rfl (by decide) fun a hS => ?_
  refine st_skip hS rfl rfl (by decide) fun a hS => ?_
  refine st_skip hS rfl rfl (by decide) fun a hS => ?_
  refine st_val hS rfl rfl (by decide) (rv_pick_f (hS.ev rfl) (hS.ev rfl)) fun a hS => ?_
  refine st_val hS rfl rfl (by decide) (rv_assign (hS.ev rfl)) fun a hS => ?_
  refine wpList_nil ?_
  exact hJ1 false _ _ (hS.sub (sub_cons rfl sub_nil)) (hM.pk [] (by decide) pn) hF


theorem c_spec_l4Distinct (F : Nat) (p0_g_Size : Int) (p0_g_Rows : List Int) (p1_l : List Int) (p0_g_Rowsv : Value) (p1_lv : Value) {r : Bool} (hF : S_spec_l4Distinct F p0_g_Size p0_g_Rows p1_l = some r) (w0 : World) (h0 : RdRow w0 p0_g_Rowsv (List.map (int i64) p0_g_Rows)) (h1 : RdRow w0 p1_lv (List.map (int i64) p1_l)) :
    Calls Try.prog 28 [(Value.agg #[(int i64 p0_g_Size), p0_g_Rowsv]), p1_lv].toArray w0 (retPost fun v w' => v = (Value.bool r) ∧ Mem Nob w0 w' []) := by
 have hM : Mem Nob w0 w0 [(false, rd p0_g_Rowsv (List.map (int i64) p0_g_Rows)), (false, rd p1_lv (List.map (int i64) p1_l))] := (Mem.rcons (Mem.rcons (Mem.nil w0) h1 (by simp)) h0 (by simp))
 refine enter2 Try.func28 rfl rfl rfl fun Q a hQr hQn hQp hS => ?_
 have hS : Sl 22 [(0, (Value.agg #[(int i64 p0_g_Size), p0_g_Rowsv])), (1, p1_lv)] a := hS
 unfold S_spec_l4Distinct at hF
 refine wp_seq_k fun K1 hK1 => ?_
 refine wp_region_lit ?_
 obtain ⟨b3, w, hr, hM⟩ := hM.boxE (ρ := a.eval) (dst := some 2) (ty := _) (pos := _) (af := _) (gd := _) (x := .tmp 0) (T := 29) [(int i64 p0_g_Size), p0_g_Rowsv] (hS.ev rfl) rfl
 refine st_val hS rfl rfl (by decide) hr fun a hS => ?_
 refine st_val hS rfl rfl (by decide) (rv_assign (hS.ev rfl)) fun a hS => ?_
 refine wpList_nil ?_
 refine hK1 _ _ ?_
 refine wp_seq_k fun K4 hK4 => ?_
 refine wp_region_lit ?_
 refine st_val hS rfl rfl (by decide) (rv_move (hS.ev rfl)) fun a hS => ?_
 obtain ⟨r6, hr, hF⟩ := bind_some hF
 refine st_wp hS rfl (wp_call hS rfl rfl (by decide) fn_ok_39 rfl (c_spec_SetOf F p1_l p1_lv hr _ (hM.get 2 rfl)) fun v w a hK hS => ?_)
 obtain ⟨rfl, hN⟩ := hK
 have hM := hM.fra hN.fr
 refine st_val hS rfl rfl (by decide) (rv_move (hS.ev rfl)) fun a hS => ?_
 refine st_val hS rfl rfl (by decide) (rv_extract (hS.ev rfl) rfl) fun a hS => ?_
 refine st_val hS rfl rfl (by decide) (rv_extract (hS.ev rfl) rfl) fun a hS => ?_
 refine st_val hS rfl rfl (by decide) (rv_assign (hS.ev rfl)) fun a hS => ?_
 refine st_val hS rfl rfl (by decide) (rv_assign (hS.ev rfl)) fun a hS => ?_
 refine wpList_nil ?_
 refine hK4 _ _ ?_
 have hS : Sl 22 [(2, (fdp b3 0)), (5, (int i64 r6.1)), (6, (Value.bool r6.2))] a := hS.sub (sub_cons rfl (sub_cons rfl (sub_cons rfl sub_nil)))
 have hM := hM.pk [0, 1] (by decide) (pc rfl (pc rfl pn))
 refine wp_seq_k fun K7 hK7 => ?_
 have hJ1 : ∀ (p10 : Bool) (a : Act) (w : World), Sl 22 [(4, (Value.bool p10))] a → Mem Nob w0 w [] → S_spec_l4Distinct_j1 F p10 = some r → K7 a w := by
  intro p10 a w hS hM hF
  unfold S_spec_l4Distinct_j1 at hF
  refine hK7 _ _ ?_
  refine wp_ret ?_
  cases hF
  exact hQr _ _ (r_1 hS rfl rfl ⟨rfl, hM.pk [] (by decide) pn⟩)
 refine wp_region_lit ?_
 refine st_val hS rfl rfl (by decide) (rv_load_agg (hS.ev rfl) ty_ag_29 (hM.get 0 rfl) ty_sz_29) fun a hS => ?_
 obtain ⟨r11, hr, hF⟩ := bind_some hF
 refine st_wp hS rfl (wp_call hS rfl rfl (by decide) fn_ok_33 rfl (c_spec_IsGraph F p0_g_Size p0_g_Rows p0_g_Rowsv hr _ (hM.get 1 rfl)) fun v w a hK hS => ?_)
 obtain ⟨rfl, hN⟩ := hK
 have hM := hM.fra hN.fr
 refine st_val hS rfl rfl (by decide) (rv_move (hS.ev rfl)) fun a hS => ?_
 rcases ite_some hF with ⟨hc, hF⟩ | ⟨hc, hF⟩
 ·have hS := hS.setb (t := 14) rfl hc
  refine st_val hS rfl rfl (by decide) (rv_move (hS.ev rfl)) fun a hS => ?_
  refine st_val hS rfl rfl (by decide) (rv_pick_t (hS.ev rfl) (hS.ev rfl)) fun a hS => ?_
  refine st_val hS rfl rfl (by decide) (rv_move (hS.ev rfl)) fun a hS => ?_
  rcases ite_some hF with ⟨hc, hF⟩ | ⟨hc, hF⟩
  ·have hS := hS.setb (t := 17) rfl hc
   refine st_val hS rfl rfl (by decide) (rv_load_agg (hS.ev rfl) ty_ag_29 (hM.get 0 rfl) ty_sz_29) fun a hS => ?_
   refine st_val hS rfl rfl (by decide) (rv_move (hS.ev rfl)) fun a hS => ?_
   obtain ⟨r12, hr, hF⟩ := bind_some hF
   refine st_wp hS rfl (wp_call hS rfl rfl (by decide) fn_ok_40 rfl (c_spec_IsSet F p0_g_Size p0_g_Rows r6.1 p0_g_Rowsv hr _ (hM.get 1 rfl)) fun v w a hK hS => ?_)
   obtain ⟨rfl, hN⟩ := hK
   have hM := hM.fra hN.fr
   refine st_val hS rfl rfl (by decide) (rv_pick_t (hS.ev rfl) (hS.ev rfl)) fun a hS => ?_
   refine st_val hS rfl rfl (by decide) (rv_assign (hS.ev rfl)) fun a hS => ?_
   refine wpList_nil ?_
   exact hJ1 r12 _ _ (hS.sub (sub_cons rfl sub_nil)) (hM.pk [] (by decide) pn) hF
  ·have hS := hS.setb (t := 17) rfl hc
   refine st_skip hS rfl rfl (by decide) fun a hS => ?_
   refine st_skip hS rfl rfl (by decide) fun a hS => ?_
   refine st_skip hS rfl rfl (by decide) fun a hS => ?_
   refine st_val hS rfl rfl (by decide) (rv_pick_f (hS.ev rfl) (hS.ev rfl)) fun a hS => ?_
   refine st_val hS rfl rfl (by decide) (rv_assign (hS.ev rfl)) fun a hS => ?_
   refine wpList_nil ?_
   exact hJ1 false _ _ (hS.sub (sub_cons rfl sub_nil)) (hM.pk [] (by decide) pn) hF
 ·have hS := hS.setb (t := 14) rfl hc
  refine st_skip hS rfl rfl (by decide) fun a hS => ?_
  refine st_val hS rfl rfl (by decide) (rv_pick_f (hS.ev rfl) (hS.ev rfl)) fun a hS => ?_
  refine st_val hS rfl rfl (by decide) (rv_move (hS.ev rfl)) fun a hS => ?_
  refine st_skip hS rfl rfl (by decide) fun a hS => ?_
  refine st_skip hS rfl rfl (by decide) fun a hS => ?_
  refine st_skip hS rfl rfl (by decide) fun a hS => ?_
  refine st_val hS rfl rfl (by decide) (rv_pick_f (hS.ev rfl) (hS.ev rfl)) fun a hS => ?_
  refine st_val hS rfl rfl (by decide) (rv_assign (hS.ev rfl)) fun a hS => ?_
  refine wpList_nil ?_
  exact hJ1 false _ _ (hS.sub (sub_cons rfl sub_nil)) (hM.pk [] (by decide) pn) hF


theorem c_spec_IsOrder (F : Nat) (p0_g_Size : Int) (p0_g_Rows : List Int) (p1_l : List Int) (p0_g_Rowsv : Value) (p1_lv : Value) {r : Bool} (hF : S_spec_IsOrder F p0_g_Size p0_g_Rows p1_l = some r) (w0 : World) (h0 : RdRow w0 p0_g_Rowsv (List.map (int i64) p0_g_Rows)) (h1 : RdRow w0 p1_lv (List.map (int i64) p1_l)) :
    Calls Try.prog 17 [(Value.agg #[(int i64 p0_g_Size), p0_g_Rowsv]), p1_lv].toArray w0 (retPost fun v w' => v = (Value.bool r) ∧ Mem Nob w0 w' []) := by
 have hM : Mem Nob w0 w0 [(false, rd p0_g_Rowsv (List.map (int i64) p0_g_Rows)), (false, rd p1_lv (List.map (int i64) p1_l))] := (Mem.rcons (Mem.rcons (Mem.nil w0) h1 (by simp)) h0 (by simp))
 refine enter2 Try.func17 rfl rfl rfl fun Q a hQr hQn hQp hS => ?_
 have hS : Sl 15 [(0, (Value.agg #[(int i64 p0_g_Size), p0_g_Rowsv])), (1, p1_lv)] a := hS
 unfold S_spec_IsOrder at hF
 refine wp_seq_k fun K1 hK1 => ?_
 refine wp_region_lit ?_
 obtain ⟨b3, w, hr, hM⟩ := hM.boxE (ρ := a.eval) (dst := some 2) (ty := _) (pos := _) (af := _) (gd := _) (x := .tmp 0) (T := 29) [(int i64 p0_g_Size), p0_g_Rowsv] (hS.ev rfl) rfl
 refine st_val hS rfl rfl (by decide) hr fun a hS => ?_
 refine st_val hS rfl rfl (by decide) (rv_assign (hS.ev rfl)) fun a hS => ?_
 refine wpList_nil ?_
 refine hK1 _ _ ?_
 refine wp_seq_k fun K4 hK4 => ?_
 have hJ1 : ∀ (p6 : Bool) (a : Act) (w : World), Sl 15 [(4, (Value.bool p6))] a → Mem Nob w0 w [] → S_spec_IsOrder_j1 F p6 = some r → K4 a w := by
  intro p6 a w hS hM hF
  unfold S_spec_IsOrder_j1 at hF
  refine hK4 _ _ ?_
  refine wp_ret ?_
  cases hF
  exact hQr _ _ (r_1 hS rfl rfl ⟨rfl, hM.pk [] (by decide) pn⟩)
 refine wp_region_lit ?_
 refine st_val hS rfl rfl (by decide) (rv_load_agg (hS.ev rfl) ty_ag_29 (hM.get 0 rfl) ty_sz_29) fun a hS => ?_
 refine st_val hS rfl rfl (by decide) (rv_move (hS.ev rfl)) fun a hS => ?_
 obtain ⟨r7, hr, hF⟩ := bind_some hF
 refine st_wp hS rfl (wp_call hS rfl rfl (by decide) fn_ok_28 rfl (c_spec_l4Distinct F p0_g_Size p0_g_Rows p1_l p0_g_Rowsv p1_lv hr _ (hM.get 1 rfl) (hM.get 2 rfl)) fun v w a hK hS => ?_)
 obtain ⟨rfl, hN⟩ := hK
 have hM := hM.fra hN.fr
 refine st_val hS rfl rfl (by decide) (rv_move (hS.ev rfl)) fun a hS => ?_
 rcases ite_some hF with ⟨hc, hF⟩ | ⟨hc, hF⟩
 ·have hS := hS.setb (t := 8) rfl hc
  refine st_val hS rfl rfl (by decide) (rv_move (hS.ev rfl)) fun a hS => ?_
  refine st_val hS rfl rfl (by decide) (rv_len_rowM Try.underlying22 (hS.ev rfl) (hM.get 2 rfl)) fun a hS => ?_
  refine st_val hS rfl rfl (by decide) (rv_fieldAddr ty_fd_29_0 (hS.ev rfl)) fun a hS => ?_
  refine st_val hS rfl rfl (by decide) (rv_load_bx (hS.ev rfl) ty_ag_3 (hM.get 0 rfl) rfl) fun a hS => ?_
  refine st_val hS rfl rfl (by decide) (rv_eql (hS.ev rfl) (hS.ev rfl)) fun a hS => ?_
  refine st_val hS rfl rfl (by decide) (rv_pick_t (hS.ev rfl) (hS.ev rfl)) fun a hS => ?_
  refine st_val hS rfl rfl (by decide) (rv_assign (hS.ev rfl)) fun a hS => ?_
  refine wpList_nil ?_
  exact hJ1 ((p1_l.length : Int) == p0_g_Size) _ _ (hS.sub (sub_cons rfl sub_nil)) (hM.pk [] (by decide) pn) hF
 ·have hS := hS.setb (t := 8) rfl hc
  refine st_skip hS rfl rfl (by decide) fun a hS => ?_
  refine st_skip hS rfl rfl (by decide) fun a hS => ?_
  refine st_skip hS rfl rfl (by decide) fun a hS => ?_
  refine st_skip hS rfl rfl (by decide) fun a hS => ?_
  refine st_skip hS rfl rfl (by decide) fun a hS => ?_
  refine st_val hS rfl rfl (by decide) (rv_pick_f (hS.ev rfl) (hS.ev rfl)) fun a hS => ?_
  refine st_val hS rfl rfl (by decide) (rv_assign (hS.ev rfl)) fun a hS => ?_
  refine wpList_nil ?_
  exact hJ1 false _ _ (hS.sub (sub_cons rfl sub_nil)) (hM.pk [] (by decide) pn) hF


theorem c_spec_l2Copy (F : Nat) (p0_g_Size : Int) (p0_g_Rows : List Int) (p0_g_Rowsv : Value) {r : Int × (List (Int))} (hF : S_spec_l2Copy F p0_g_Size p0_g_Rows = some r) (w0 : World) (h0 : RdRow w0 p0_g_Rowsv (List.map (int i64) p0_g_Rows)) :
    Calls Try.prog 29 [(Value.agg #[(int i64 p0_g_Size), p0_g_Rowsv])].toArray w0 (retPost fun v w' => ∃ v11, v = (Value.agg #[(int i64 r.1), v11]) ∧ Mem Nob w0 w' [(true, ow 3 v11 (List.map (int i64) r.2))]) := by
 have hM : Mem Nob w0 w0 [(false, rd p0_g_Rowsv (List.map (int i64) p0_g_Rows))] := (Mem.rcons (Mem.nil w0) h0 (by simp))
 refine enter2 Try.func29 rfl rfl rfl fun Q a hQr hQn hQp hS => ?_
 have hS : Sl 10 [(0, (Value.agg #[(int i64 p0_g_Size), p0_g_Rowsv]))] a := hS
 unfold S_spec_l2Copy at hF
 refine wp_seq_k fun K1 hK1 => ?_
 refine wp_region_lit ?_
 obtain ⟨b4, w, hr, hM⟩ := hM.boxE (ρ := a.eval) (dst := some 1) (ty := _) (pos := _) (af := _) (gd := _) (x := .tmp 0) (T := 29) [(int i64 p0_g_Size), p0_g_Rowsv] (hS.ev rfl) rfl
 refine st_val hS rfl rfl (by decide) hr fun a hS => ?_
 obtain ⟨b5, w, hr, hM⟩ := hM.allocE (ρ := a.eval) (dst := some 2) (ty := _) (pos := _) (af := _) (gd := _) (T := 29) (P := Try.prog) [(int i64 0), (Value.slice none 0 0)] ty_zr_29 rfl
 refine st_val hS rfl rfl (by decide) hr fun a hS => ?_
 have hM := hM.addNil 3
 refine wpList_nil ?_
 refine hK1 _ _ ?_
 refine wp_seq_k fun K6 hK6 => ?_
 have hM := hM.pk [1, 0, 2, 3] (by decide) (pc rfl (pc rfl (pc rfl (pc rfl pn))))
 refine an_startB 8 (feet [(true, bx b5 29 [(int i64 0), (Value.slice none 0 0)])]) ty_mixed (by kernel_rfl) fun w hf => ?_
 have hM := hM.fra hf
 have hB := hM
 have hM := hB.reg1 rfl
 refine tkB hS 0 1 (by kernel_rfl) rfl rfl rfl hQp rfl (fun w' hC' => (rv_fieldAddr ty_fd_29_0 (hS.ev rfl))) hM.fr fun a hS => ?_
 refine tkB hS 1 3 (by kernel_rfl) rfl rfl rfl hQp rfl (fun w' hC' => (rv_load_bx (hS.ev rfl) ty_ag_3 (hB.getF rfl 1 rfl hC') rfl)) hM.fr fun a hS => ?_
 refine tkB hS 3 11 (by kernel_rfl) rfl rfl rfl hQp rfl (fun w' hC' => (rv_fieldAddr ty_fd_29_1 (hS.ev rfl))) hM.fr fun a hS => ?_
 refine tkB hS 4 27 (by kernel_rfl) rfl rfl rfl hQp rfl (fun w' hC' => (rv_load_bx (hS.ev rfl) ty_ag_22 (hB.getF rfl 1 rfl hC') rfl)) hM.fr fun a hS => ?_
 obtain ⟨v9, w, hr, hM⟩ := Mem.litE (f := (int i64)) (dst := some 5) (ty := _) (pos := _) (af := _) (gd := _) (ps := []) ([] : List (Int)) i64_one hM hS Try.underlying22 ty_el_3 rfl rfl rfl rfl
 refine an_oneB hS (i := 2) 31 (by kernel_rfl) rfl (by kernel_rfl) rfl ?_
 refine wp_val hS rfl (by decide) hr fun a hS => ⟨hM.fr, ?_⟩
 obtain ⟨_, hx, hF⟩ := bind_some hF
 obtain ⟨v10, w, hr, hM⟩ := Mem.appE (f := (int i64)) (S := _) (R := [(true, bx b5 29 [(int i64 0), (Value.slice none 0 0)]), (false, ow 3 (Value.slice none 0 0) (List.map (int i64) ([] : List (Int)))), (false, bx b4 29 [(int i64 p0_g_Size), p0_g_Rowsv]), (false, rd p0_g_Rowsv (List.map (int i64) p0_g_Rows))]) (ρ := a.eval) (dst := some 8) (ty := _) (pos := _) (af := _) (gd := _) (x := .tmp 5) (y := .tmp 7) i64_one hM Try.underlying22 ty_el_3 rfl (by decide) (hS.ev rfl) (hS.ev rfl) (hM.get 4 rfl) (catO_some hx)
 refine an_oneB hS (i := 5) 63 (by kernel_rfl) rfl (by kernel_rfl) rfl ?_
 refine wp_val hS rfl (by decide) hr fun a hS => ⟨hM.fr, ?_⟩
 refine tkB hS 6 127 (by kernel_rfl) rfl rfl rfl hQp rfl (fun w' hC' => (rv_build hS ty_st_29 rfl (by simp) (ones_cons (by rw [hS.ev (v := (int i64 p0_g_Size)) rfl]; rfl) (ones_cons (by rw [hS.ev (v := v10) rfl]; exact rd_one (rd_of_ow (hM.get 0 rfl))) ones_nil)))) hM.fr fun a hS => ?_
 have hM := hM.pk [1, 0, 2, 3, 4] (by decide) (pc rfl (pc rfl (pc rfl (pc rfl (pc rfl pn)))))
 obtain ⟨w, hr, hM⟩ := hM.st_agg (us := [(int i64 p0_g_Size), v10]) (ρ := a.eval) (dst := none) (ty := _) (pos := _) (af := _) (gd := _) (x := .tmp 2) (y := .tmp 9) (hS.ev rfl) (hS.ev rfl) ty_sz_29 (all1_cons rfl (all1_cons (rd_one (rd_of_ow (hM.get 1 rfl))) all1_nil)) rfl
 refine an_oneB hS (i := 7) 255 (by kernel_rfl) rfl (by kernel_rfl) rfl ?_
 refine wp_unit hS rfl hr ⟨hM.fr, ?_⟩
 refine an_done (by kernel_rfl) ?_
 have hN := hM.pk [0, 1] (by decide) (pc rfl (pc rfl pn))
 have hM := Mem.callo (A := [(true, bx b5 29 [(int i64 0), (Value.slice none 0 0)])]) (B := [(true, ow 3 (Value.slice none 0 0) (List.map (int i64) ([] : List (Int)))), (true, bx b4 29 [(int i64 p0_g_Size), p0_g_Rowsv]), (false, rd p0_g_Rowsv (List.map (int i64) p0_g_Rows))]) hB rfl (hN.memS fun _ h => h) rfl
 refine hK6 _ _ ?_
 have hS : Sl 10 [(2, (fdp b5 0))] a := hS.sub (sub_cons rfl sub_nil)
 have hM := hM.pk [0, 1] (by decide) (pc rfl (pc rfl pn))
 refine wp_ret ?_
 cases hF
 exact hQr _ _ (r_c hS rfl ⟨_, rfl, run_loadAgg ty_ag_29 (hM.get 0 rfl) ty_sz_29⟩ ⟨v10, rfl, hM.pk [1] (by decide) (pc rfl pn)⟩)


theorem c_spec_l3Fine (F : Nat) (p0_set : Int) {r : Bool} (hF : S_spec_l3Fine F p0_set = some r) (w0 : World) :
    Calls Try.prog 41 [(int i64 p0_set)].toArray w0 (retPost fun v w' => v = (Value.bool r) ∧ Mem Nob w0 w' []) := by
 have hM : Mem Nob w0 w0 [] := (Mem.nil w0)
 refine enter2 Try.func41 rfl rfl rfl fun Q a hQr hQn hQp hS => ?_
 have hS : Sl 5 [(0, (int i64 p0_set))] a := hS
 unfold S_spec_l3Fine at hF
 refine wp_seq_k fun K1 hK1 => ?_
 refine wp_region_lit ?_
 refine st_val hS rfl rfl (by decide) (rv_assign (hS.ev rfl)) fun a hS => ?_
 refine wpList_nil ?_
 refine hK1 _ _ ?_
 refine wp_seq_k fun K2 hK2 => ?_
 refine wp_region_lit ?_
 refine st_val hS rfl rfl (by decide) (rv_move (hS.ev rfl)) fun a hS => ?_
 obtain ⟨r4, hr, hF⟩ := bind_some hF
 refine st_wp hS rfl (wp_call hS rfl rfl (by decide) fn_ok_43 rfl (c_spec_l1In F p0_set 0 127 hr _) fun v w a hK hS => ?_)
 obtain ⟨rfl, hN⟩ := hK
 have hM := hM.fra hN.fr
 refine st_val hS rfl rfl (by decide) (rv_assign (hS.ev rfl)) fun a hS => ?_
 refine wpList_nil ?_
 refine hK2 _ _ ?_
 refine wp_ret ?_
 cases hF
 exact hQr _ _ (r_1 hS rfl rfl ⟨rfl, hM.pk [] (by decide) pn⟩)


theorem c_spec_ListOf (F : Nat) (p0_set : Int) {r : (List (Int))} (hF : S_spec_ListOf F p0_set = some r) (w0 : World) :
    Calls Try.prog 30 [(int i64 p0_set)].toArray w0 (retPost fun v w' => Mem Nob w0 w' [(true, ow 3 v (List.map (int i64) r))]) := by
 have hM : Mem Nob w0 w0 [] := (Mem.nil w0)
 refine enter2 Try.func30 rfl rfl rfl fun Q a hQr hQn hQp hS => ?_
 have hS : Sl 24 [(0, (int i64 p0_set))] a := hS
 unfold S_spec_ListOf at hF
 refine wp_seq_k fun K1 hK1 => ?_
 refine wp_region_lit ?_
 refine st_val hS rfl rfl (by decide) (rv_assign (hS.ev rfl)) fun a hS => ?_
 refine wpList_nil ?_
 refine hK1 _ _ ?_
 refine wp_seq_k fun K2 hK2 => ?_
 refine wp_region_lit ?_
 obtain ⟨v4, w, hr, hM⟩ := Mem.litE (f := (int i64)) (dst := some 5) (ty := _) (pos := _) (af := _) (gd := _) (ps := []) ([] : List (Int)) i64_one hM hS Try.underlying22 ty_el_3 rfl rfl rfl rfl
 refine st_val hS rfl rfl (by decide) hr fun a hS => ?_
 refine st_val hS rfl rfl (by decide) (rv_assign (hS.ev rfl)) fun a hS => ?_
 refine wpList_nil ?_
 refine hK2 _ _ ?_
 refine wp_seq_k fun K5 hK5 => ?_
 have hJ1 : ∀ (l47 : List Int) (v46 : Value) (a : Act) (w : World), Sl 24 [(3, v46)] a → Mem Nob w0 w [(true, ow 3 v46 (List.map (int i64) l47))] → S_spec_ListOf_j1 F l47 = some r → K5 a w := by
  intro l47 v46 a w hS hM hF
  unfold S_spec_ListOf_j1 at hF
  refine hK5 _ _ ?_
  refine wp_seq_k fun K48 hK48 => ?_
  refine wp_region_lit ?_
  refine st_val hS rfl rfl (by decide) (rv_move (hS.ev rfl)) fun a hS => ?_
  refine st_val hS rfl rfl (by decide) (rv_assign (hS.ev rfl)) fun a hS => ?_
  refine wpList_nil ?_
  refine hK48 _ _ ?_
  refine wp_ret ?_
  cases hF
  exact hQr _ _ (r_1 hS rfl rfl (hM.pk [0] (by decide) (pc rfl pn)))
 refine wp_seq_k fun K49 hK49 => ?_
 refine wp_region_lit ?_
 refine st_val hS rfl rfl (by decide) (rv_assign (hS.ev rfl)) fun a hS => ?_
 refine wpList_nil ?_
 refine hK49 _ _ ?_
 refine wp_block ?_
 obtain ⟨lb2, hl2, hF2⟩ := bind_some hF
 refine wp_loop_sh (fun s => S_spec_ListOf_l2 F p0_set s.1 s.2) (fun s a w => ∃ (v50 : Value), Sl 24 [(0, (int i64 p0_set)), (3, v50), (4, (int i64 s.2))] a ∧ Mem Nob w0 w [(true, ow 3 v50 (List.map (int i64) s.1))]) hl2 ⟨v4, (hS.sub (sub_cons rfl (sub_cons rfl (sub_cons rfl sub_nil)))), (hM.pk [0] (by decide) (pc rfl pn))⟩ ?_
 rintro K2 ⟨l51, x52⟩ a w res2 ⟨v50, hS, hM⟩ hF hN2 hX2
 have hF : S_spec_ListOf_l2 F p0_set l51 x52 = some res2 := hF
 have hS : Sl 24 [(0, (int i64 p0_set)), (3, v50), (4, (int i64 x52))] a := hS
 have hM : Mem Nob w0 w [(true, ow 3 v50 (List.map (int i64) l51))] := hM
 unfold S_spec_ListOf_l2 at hF
 refine wp_seq_k fun K71 hK71 => ?_
 refine wp_seq_k fun K76 hK76 => ?_
 have hJ3 : ∀ (p78 : Bool) (a : Act) (w : World), Sl 24 [(0, (int i64 p0_set)), (3, v50), (4, (int i64 x52)), (11, (Value.bool p78))] a → Mem Nob w0 w [(true, ow 3 v50 (List.map (int i64) l51))] → S_spec_ListOf_j3 F p0_set l51 x52 p78 = some res2 → K76 a w := by
  intro p78 a w hS hM hF
  unfold S_spec_ListOf_j3 at hF
  refine hK76 _ _ ?_
  rcases ite_some hF with ⟨hc, hF⟩ | ⟨hc, hF⟩
  ·refine cond_t hS rfl hc ?_
   refine wp_skip ?_
   refine hK71 _ _ ?_
   refine wp_seq_k fun K79 hK79 => ?_
   have hJ4 : ∀ (l84 : List Int) (v83 : Value) (a : Act) (w : World), Sl 24 [(0, (int i64 p0_set)), (3, v83), (4, (int i64 x52))] a → Mem Nob w0 w [(true, ow 3 v83 (List.map (int i64) l84))] → S_spec_ListOf_j4 F x52 l84 = some res2 → K79 a w := by
    intro l84 v83 a w hS hM hF
    unfold S_spec_ListOf_j4 at hF
    refine hK79 _ _ ?_
    refine wp_region_lit ?_
    refine st_val hS rfl rfl (by decide) (rv_move (hS.ev rfl)) fun a hS => ?_
    refine st_val hS rfl rfl (by decide) (rv_add (hS.ev rfl) (hS.ev rfl)) fun a hS => ?_
    refine st_val hS rfl rfl (by decide) (rv_assign (hS.ev rfl)) fun a hS => ?_
    refine wpList_nil ?_
    cases hF
    exact hN2 _ _ _ rfl ⟨v83, (hS.sub (sub_cons rfl (sub_cons rfl (sub_cons rfl sub_nil)))), (hM.pk [0] (by decide) (pc rfl pn))⟩
   refine wp_block ?_
   refine wp_seq_k fun K85 hK85 => ?_
   refine wp_region_lit ?_
   refine st_val hS rfl rfl (by decide) (rv_move (hS.ev rfl)) fun a hS => ?_
   refine st_val hS rfl rfl (by decide) (rv_move (hS.ev rfl)) fun a hS => ?_
   obtain ⟨_, hx, hF⟩ := bind_some hF
   have hi0 := nnO_some hx
   refine st_val hS rfl rfl (by decide) (rv_shr (hS.ev rfl) (hS.ev rfl) hi0) fun a hS => ?_
   refine st_val hS rfl rfl (by decide) (rv_and (hS.ev rfl) (hS.ev rfl)) fun a hS => ?_
   refine st_val hS rfl rfl (by decide) (rv_eql (hS.ev rfl) (hS.ev rfl)) fun a hS => ?_
   refine wpList_nil ?_
   refine hK85 _ _ ?_
   rcases ite_some hF with ⟨hc, hF⟩ | ⟨hc, hF⟩
   ·refine cond_t hS rfl hc ?_
    refine wp_region_lit ?_
    refine st_val hS rfl rfl (by decide) (rv_move (hS.ev rfl)) fun a hS => ?_
    refine st_val hS rfl rfl (by decide) (rv_move (hS.ev rfl)) fun a hS => ?_
    obtain ⟨v86, w, hr, hM⟩ := Mem.litE (f := (int i64)) (dst := some 21) (ty := _) (pos := _) (af := _) (gd := _) (ps := [(0, .tmp 20)]) ([x52] : List (Int)) i64_one hM hS Try.underlying22 ty_el_3 rfl rfl rfl rfl
    refine st_val hS rfl rfl (by decide) hr fun a hS => ?_
    obtain ⟨_, hx, hF⟩ := bind_some hF
    have hM := hM.pk [1, 0] (by decide) (pc rfl (pc rfl pn))
    obtain ⟨v87, w, hr, hM⟩ := Mem.appE (f := (int i64)) (S := _) (R := [(true, ow 3 v86 (List.map (int i64) ([x52] : List (Int))))]) (ρ := a.eval) (dst := some 22) (ty := _) (pos := _) (af := _) (gd := _) (x := .tmp 19) (y := .tmp 21) i64_one hM Try.underlying22 ty_el_3 rfl (by decide) (hS.ev rfl) (hS.ev rfl) (rd_of_ow (hM.get 1 rfl)) (catO_some hx)
    refine st_val hS rfl rfl (by decide) hr fun a hS => ?_
    refine st_val hS rfl rfl (by decide) (rv_assign (hS.ev rfl)) fun a hS => ?_
    refine wpList_nil ?_
    exact hJ4 (l51 ++ ([x52] : List (Int))) v87 _ _ (hS.sub (sub_cons rfl (sub_cons rfl (sub_cons rfl sub_nil)))) (hM.pk [0] (by decide) (pc rfl pn)) hF
   ·refine cond_f hS rfl hc ?_
    refine wp_skip ?_
    exact hJ4 l51 v50 _ _ (hS.sub (sub_cons rfl (sub_cons rfl (sub_cons rfl sub_nil)))) (hM.pk [0] (by decide) (pc rfl pn)) hF
  ·refine cond_f hS rfl hc ?_
   refine wp_exit ?_
   cases hF
   exact hJ1 l51 v50 _ _ (hS.sub (sub_cons rfl sub_nil)) (hM.pk [0] (by decide) (pc rfl pn)) (by have e := hX2 _ rfl; subst e; exact hF2)
 refine wp_region_lit ?_
 refine st_val hS rfl rfl (by decide) (rv_move (hS.ev rfl)) fun a hS => ?_
 refine st_val hS rfl rfl (by decide) (rv_lss (hS.ev rfl) (hS.ev rfl)) fun a hS => ?_
 refine st_val hS rfl rfl (by decide) (rv_move (hS.ev rfl)) fun a hS => ?_
 rcases ite_some hF with ⟨hc, hF⟩ | ⟨hc, hF⟩
 ·have hS := hS.setb (t := 8) rfl hc
  refine st_val hS rfl rfl (by decide) (rv_move (hS.ev rfl)) fun a hS => ?_
  obtain ⟨r88, hr, hF⟩ := bind_some hF
  refine st_wp hS rfl (wp_call hS rfl rfl (by decide) fn_ok_41 rfl (c_spec_l3Fine F p0_set hr _) fun v w a hK hS => ?_)
  obtain ⟨rfl, hN⟩ := hK
  have hM := hM.fra hN.fr
  refine st_val hS rfl rfl (by decide) (rv_pick_t (hS.ev rfl) (hS.ev rfl)) fun a hS => ?_
  refine wpList_nil ?_
  exact hJ3 r88 _ _ (hS.sub (sub_cons rfl (sub_cons rfl (sub_cons rfl (sub_cons rfl sub_nil))))) (hM.pk [0] (by decide) (pc rfl pn)) hF
 ·have hS := hS.setb (t := 8) rfl hc
  refine st_skip hS rfl rfl (by decide) fun a hS => ?_
  refine st_skip hS rfl rfl (by decide) fun a hS => ?_
  refine st_val hS rfl rfl (by decide) (rv_pick_f (hS.ev rfl) (hS.ev rfl)) fun a hS => ?_
  refine wpList_nil ?_
  exact hJ3 false _ _ (hS.sub (sub_cons rfl (sub_cons rfl (sub_cons rfl (sub_cons rfl sub_nil))))) (hM.pk [0] (by decide) (pc rfl pn)) hF


end Go.Proofs.Ytblbimlobacciaa
