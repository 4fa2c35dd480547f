/- Proved here: that each Go function does what its shallow function says -/
import Derived.Test.YtgddopammpjkgaaDoorSh
import Derived.Test.YtgddopammpjkgaaDoorTy
import Derived.Test.YtgddopammpjkgaaDoorK11
import Derived.Test.YtgddopammpjkgaaDoorKS
import Derived.Test.YtgddopammpjkgaaDoorW1
import Derived.Test.YtgddopammpjkgaaDoorW2
namespace Go.Proofs.YtgddopammpjkgaaDoor
open Go Go.RowKit
set_option linter.unusedVariables false
set_option linter.unusedSimpArgs false
set_option maxRecDepth 100000
set_option maxHeartbeats 4000000

theorem c_spec_ParseInt (F : Nat) (p0_s : List UInt8) {r : Int × Bool} (hF : S_spec_ParseInt F p0_s = some r) (w0 : World) :
    Calls Tryd.prog 30 [(Value.string (bs p0_s))].toArray w0 (retPost fun v w' => v = (Value.tuple #[(Value.int IntKind.i64 r.1), (Value.bool r.2)]) ∧ Mem Nob w0 w' []) := by
  have hM : Mem Nob w0 w0 [] := (Mem.nil w0)
  refine enter2 Tryd.func30 rfl rfl rfl fun Q a hQr hQn hQp hS => ?_
  have hS : Sl 61 [(0, (Value.string (bs p0_s)))] a := hS
  unfold S_spec_ParseInt at hF
  refine wp_seq_k fun K1 hK1 => ?_
  refine wp_region_lit ?_
  refine st_val hS rfl rfl (by decide) (rv_assign (hS.ev rfl)) fun a hS => ?_
  refine st_val hS rfl rfl (by decide) (rv_assign (hS.ev rfl)) fun a hS => ?_
  refine wpList_nil ?_
  refine hK1 _ _ ?_
  refine wp_seq_k fun K2 hK2 => ?_
  refine wp_region_lit ?_
  refine st_val hS rfl rfl (by decide) (rv_assign (hS.ev rfl)) fun a hS => ?_
  refine wpList_nil ?_
  refine hK2 _ _ ?_
  refine wp_seq_k fun K3 hK3 => ?_
  refine wp_region_lit ?_
  refine st_val hS rfl rfl (by decide) (rv_assign (hS.ev rfl)) fun a hS => ?_
  refine wpList_nil ?_
  refine hK3 _ _ ?_
  refine wp_seq_k fun K4 hK4 => ?_
  have hJ1 : ∀ (x61 : Int) (x62 : Int) (a : Act) (w : World), Sl 61 [(0, (Value.string (bs p0_s))), (4, (Value.int IntKind.i64 x61)), (5, (Value.int IntKind.i64 x62))] a → Mem Nob w0 w [] → S_spec_ParseInt_j1 F p0_s x61 x62 = some r → K4 a w := by
    intro x61 x62 a w hS hM hF
    unfold S_spec_ParseInt_j1 at hF
    refine hK4 _ _ ?_
    refine wp_seq_k fun K63 hK63 => ?_
    have hJ2 : ∀ (x68 : Int) (a : Act) (w : World), Sl 61 [(0, (Value.string (bs p0_s))), (4, (Value.int IntKind.i64 x68)), (5, (Value.int IntKind.i64 x62))] a → Mem Nob w0 w [] → S_spec_ParseInt_j2 F p0_s x62 x68 = some r → K63 a w := by
      intro x68 a w hS hM hF
      unfold S_spec_ParseInt_j2 at hF
      refine hK63 _ _ ?_
      refine wp_seq_k fun K69 hK69 => ?_
      refine wp_seq_k fun K75 hK75 => ?_
      have hJ3 : ∀ (p77 : Bool) (a : Act) (w : World), Sl 61 [(4, (Value.int IntKind.i64 x68)), (59, (Value.bool p77))] a → Mem Nob w0 w [] → S_spec_ParseInt_j3 F x68 p77 = some r → K75 a w := by
        intro p77 a w hS hM hF
        unfold S_spec_ParseInt_j3 at hF
        refine hK75 _ _ ?_
        rcases ite_some hF with ⟨hc, hF⟩ | ⟨hc, hF⟩
        · refine cond_t hS rfl hc ?_
          refine wp_seq_k fun K78 hK78 => ?_
          refine wp_region_lit ?_
          refine st_val hS rfl rfl (by decide) (rv_assign (hS.ev rfl)) fun a hS => ?_
          refine st_val hS rfl rfl (by decide) (rv_assign (hS.ev rfl)) fun a hS => ?_
          refine wpList_nil ?_
          refine hK78 _ _ ?_
          refine wp_ret ?_
          cases hF
          exact hQr _ _ (r_2 hS rfl rfl rfl ⟨rfl, hM.pick [] (by decide) rfl⟩)
        · refine cond_f hS rfl hc ?_
          refine wp_skip ?_
          refine hK69 _ _ ?_
          refine wp_seq_k fun K79 hK79 => ?_
          refine wp_region_lit ?_
          refine st_val hS rfl rfl (by decide) (rv_move (hS.ev rfl)) fun a hS => ?_
          refine st_val hS rfl rfl (by decide) (rv_assign (hS.ev rfl)) fun a hS => ?_
          refine st_val hS rfl rfl (by decide) (rv_assign (hS.ev rfl)) fun a hS => ?_
          refine wpList_nil ?_
          refine hK79 _ _ ?_
          refine wp_ret ?_
          cases hF
          exact hQr _ _ (r_2 hS rfl rfl rfl ⟨rfl, hM.pick [] (by decide) rfl⟩)
      refine wp_region_lit ?_
      refine st_val hS rfl rfl (by decide) (rv_move (hS.ev rfl)) fun a hS => ?_
      refine st_val hS rfl rfl (by decide) (rv_gtr (hS.ev rfl) (hS.ev rfl)) fun a hS => ?_
      refine st_val hS rfl rfl (by decide) (rv_move (hS.ev rfl)) fun a hS => ?_
      rcases ite_some hF with ⟨hc, hF⟩ | ⟨hc, hF⟩
      · have hS := hS.setb (t := 49) rfl hc
        refine st_skip hS rfl rfl (by decide) fun a hS => ?_
        refine st_skip hS rfl rfl (by decide) fun a hS => ?_
        refine st_skip hS rfl rfl (by decide) fun a hS => ?_
        refine st_val hS rfl rfl (by decide) (rv_pick_t (hS.ev rfl) (hS.ev rfl)) fun a hS => ?_
        refine st_val hS rfl rfl (by decide) (rv_move (hS.ev rfl)) fun a hS => ?_
        refine st_skip hS rfl rfl (by decide) fun a hS => ?_
        refine st_skip hS rfl rfl (by decide) fun a hS => ?_
        refine st_skip hS rfl rfl (by decide) fun a hS => ?_
        refine st_skip hS rfl rfl (by decide) fun a hS => ?_
        refine st_val hS rfl rfl (by decide) (rv_pick_t (hS.ev rfl) (hS.ev rfl)) fun a hS => ?_
        refine wpList_nil ?_
        exact hJ3 true _ _ (hS.sub (sub_cons rfl (sub_cons rfl sub_nil))) (hM.pick [] (by decide) rfl) hF
      · have hS := hS.setb (t := 49) rfl hc
        refine st_val hS rfl rfl (by decide) (rv_move (hS.ev rfl)) fun a hS => ?_
        refine st_val hS rfl rfl (by decide) (rv_len_str Tryd.underlying9 (hS.ev rfl)) fun a hS => ?_
        refine st_val hS rfl rfl (by decide) (rv_gtr (hS.ev rfl) (hS.ev rfl)) fun a hS => ?_
        refine st_val hS rfl rfl (by decide) (rv_pick_f (hS.ev rfl) (hS.ev rfl)) fun a hS => ?_
        refine st_val hS rfl rfl (by decide) (rv_move (hS.ev rfl)) fun a hS => ?_
        rcases ite_some hF with ⟨hc, hF⟩ | ⟨hc, hF⟩
        · have hS := hS.setb (t := 54) rfl hc
          refine st_skip hS rfl rfl (by decide) fun a hS => ?_
          refine st_skip hS rfl rfl (by decide) fun a hS => ?_
          refine st_skip hS rfl rfl (by decide) fun a hS => ?_
          refine st_skip hS rfl rfl (by decide) fun a hS => ?_
          refine st_val hS rfl rfl (by decide) (rv_pick_t (hS.ev rfl) (hS.ev rfl)) fun a hS => ?_
          refine wpList_nil ?_
          exact hJ3 true _ _ (hS.sub (sub_cons rfl (sub_cons rfl sub_nil))) (hM.pick [] (by decide) rfl) hF
        · have hS := hS.setb (t := 54) rfl hc
          refine st_val hS rfl rfl (by decide) (rv_move (hS.ev rfl)) fun a hS => ?_
          obtain ⟨r80, hr, hF⟩ := bind_some hF
          refine st_wp hS rfl (wp_call hS rfl rfl (by decide) fn_ok_22 rfl (c_spec_FormatInt F x68 hr _) fun v w a hK hS => ?_)
          obtain ⟨rfl, hN⟩ := hK
          have hM := hM.fra hN.fr
          refine st_val hS rfl rfl (by decide) (rv_move (hS.ev rfl)) fun a hS => ?_
          refine st_val hS rfl rfl (by decide) (rv_str_neq (hS.ev rfl) (hS.ev rfl)) fun a hS => ?_
          refine st_val hS rfl rfl (by decide) (rv_pick_f (hS.ev rfl) (hS.ev rfl)) fun a hS => ?_
          refine wpList_nil ?_
          exact hJ3 (r80 != p0_s) _ _ (hS.sub (sub_cons rfl (sub_cons rfl sub_nil))) (hM.pick [] (by decide) rfl) hF
    refine wp_seq_k fun K81 hK81 => ?_
    have hJ4 : ∀ (p83 : Bool) (a : Act) (w : World), Sl 61 [(0, (Value.string (bs p0_s))), (4, (Value.int IntKind.i64 x61)), (5, (Value.int IntKind.i64 x62)), (44, (Value.bool p83))] a → Mem Nob w0 w [] → S_spec_ParseInt_j4 F p0_s x61 x62 p83 = some r → K81 a w := by
      intro p83 a w hS hM hF
      unfold S_spec_ParseInt_j4 at hF
      refine hK81 _ _ ?_
      rcases ite_some hF with ⟨hc, hF⟩ | ⟨hc, hF⟩
      · refine cond_t hS rfl hc ?_
        refine wp_region_lit ?_
        refine st_val hS rfl rfl (by decide) (rv_move (hS.ev rfl)) fun a hS => ?_
        refine st_val hS rfl rfl (by decide) (rv_neg (hS.ev rfl)) fun a hS => ?_
        refine st_val hS rfl rfl (by decide) (rv_assign (hS.ev rfl)) fun a hS => ?_
        refine wpList_nil ?_
        exact hJ2 (IntKind.i64.wrap (0 - x61)) _ _ (hS.sub (sub_cons rfl (sub_cons rfl (sub_cons rfl sub_nil)))) (hM.pick [] (by decide) rfl) hF
      · refine cond_f hS rfl hc ?_
        refine wp_skip ?_
        exact hJ2 x61 _ _ (hS.sub (sub_cons rfl (sub_cons rfl (sub_cons rfl sub_nil)))) (hM.pick [] (by decide) rfl) hF
    refine wp_region_lit ?_
    refine st_val hS rfl rfl (by decide) (rv_move (hS.ev rfl)) fun a hS => ?_
    refine st_val hS rfl rfl (by decide) (rv_len_str Tryd.underlying9 (hS.ev rfl)) fun a hS => ?_
    refine st_val hS rfl rfl (by decide) (rv_gtr (hS.ev rfl) (hS.ev rfl)) fun a hS => ?_
    refine st_val hS rfl rfl (by decide) (rv_move (hS.ev rfl)) fun a hS => ?_
    rcases ite_some hF with ⟨hc, hF⟩ | ⟨hc, hF⟩
    · have hS := hS.setb (t := 40) rfl hc
      refine st_val hS rfl rfl (by decide) (rv_move (hS.ev rfl)) fun a hS => ?_
      obtain ⟨x84, hx, hF⟩ := bind_some hF
      obtain ⟨hi0, hi1, hi2⟩ := idxL_some hx
      refine st_val hS rfl rfl (by decide) (rv_index Tryd.underlying9 (hS.ev rfl) (hS.ev rfl) hi0 hi2) fun a hS => ?_
      refine st_val hS rfl rfl (by decide) (rv_eql (hS.ev rfl) (hS.ev rfl)) fun a hS => ?_
      refine st_val hS rfl rfl (by decide) (rv_pick_t (hS.ev rfl) (hS.ev rfl)) fun a hS => ?_
      refine wpList_nil ?_
      exact hJ4 ((x84.toNat : Int) == 45) _ _ (hS.sub (sub_cons rfl (sub_cons rfl (sub_cons rfl (sub_cons rfl sub_nil))))) (hM.pick [] (by decide) rfl) hF
    · have hS := hS.setb (t := 40) rfl hc
      refine st_skip hS rfl rfl (by decide) fun a hS => ?_
      refine st_skip hS rfl rfl (by decide) fun a hS => ?_
      refine st_skip hS rfl rfl (by decide) fun a hS => ?_
      refine st_val hS rfl rfl (by decide) (rv_pick_f (hS.ev rfl) (hS.ev rfl)) fun a hS => ?_
      refine wpList_nil ?_
      exact hJ4 false _ _ (hS.sub (sub_cons rfl (sub_cons rfl (sub_cons rfl (sub_cons rfl sub_nil))))) (hM.pick [] (by decide) rfl) hF
  refine wp_seq_k fun K85 hK85 => ?_
  refine wp_region_lit ?_
  refine st_val hS rfl rfl (by decide) (rv_assign (hS.ev rfl)) fun a hS => ?_
  refine wpList_nil ?_
  refine hK85 _ _ ?_
  refine wp_block ?_
  obtain ⟨lb5, hl5, hF5⟩ := bind_some hF
  refine wp_loop_sh (fun s => S_spec_ParseInt_l5 F p0_s s.1 s.2.1 s.2.2) (fun s a w => Sl 61 [(0, (Value.string (bs p0_s))), (4, (Value.int IntKind.i64 s.1)), (5, (Value.int IntKind.i64 s.2.1)), (6, (Value.int IntKind.i64 s.2.2))] a ∧ Mem Nob w0 w []) hl5 ⟨(hS.sub (sub_cons rfl (sub_cons rfl (sub_cons rfl (sub_cons rfl sub_nil))))), (hM.pick [] (by decide) rfl)⟩ ?_
  rintro K5 ⟨x86, x87, x88⟩ a w res5 ⟨hS, hM⟩ hF hN5 hX5
  have hF : S_spec_ParseInt_l5 F p0_s x86 x87 x88 = some res5 := hF
  have hS : Sl 61 [(0, (Value.string (bs p0_s))), (4, (Value.int IntKind.i64 x86)), (5, (Value.int IntKind.i64 x87)), (6, (Value.int IntKind.i64 x88))] a := hS
  have hM : Mem Nob w0 w [] := hM
  unfold S_spec_ParseInt_l5 at hF
  refine wp_seq_k fun K115 hK115 => ?_
  refine wp_seq_k fun K118 hK118 => ?_
  have hJ6 : ∀ (p119 : Bool) (a : Act) (w : World), Sl 61 [(0, (Value.string (bs p0_s))), (4, (Value.int IntKind.i64 x86)), (5, (Value.int IntKind.i64 x87)), (6, (Value.int IntKind.i64 x88)), (14, (Value.bool p119))] a → Mem Nob w0 w [] → S_spec_ParseInt_j6 F p0_s x86 x87 x88 p119 = some res5 → K118 a w := by
    intro p119 a w hS hM hF
    unfold S_spec_ParseInt_j6 at hF
    refine hK118 _ _ ?_
    rcases ite_some hF with ⟨hc, hF⟩ | ⟨hc, hF⟩
    · refine cond_t hS rfl hc ?_
      refine wp_skip ?_
      refine hK115 _ _ ?_
      refine wp_seq_k fun K120 hK120 => ?_
      have hJ7 : ∀ (x130 : Int) (x131 : Int) (a : Act) (w : World), Sl 61 [(0, (Value.string (bs p0_s))), (4, (Value.int IntKind.i64 x130)), (5, (Value.int IntKind.i64 x131)), (6, (Value.int IntKind.i64 x88))] a → Mem Nob w0 w [] → S_spec_ParseInt_j7 F x88 x130 x131 = some res5 → K120 a w := by
        intro x130 x131 a w hS hM hF
        unfold S_spec_ParseInt_j7 at hF
        refine hK120 _ _ ?_
        refine wp_region_lit ?_
        refine st_val hS rfl rfl (by decide) (rv_move (hS.ev rfl)) fun a hS => ?_
        refine st_val hS rfl rfl (by decide) (rv_add (hS.ev rfl) (hS.ev rfl)) fun a hS => ?_
        refine st_val hS rfl rfl (by decide) (rv_assign (hS.ev rfl)) fun a hS => ?_
        refine wpList_nil ?_
        cases hF
        exact hN5 _ _ _ rfl ⟨(hS.sub (sub_cons rfl (sub_cons rfl (sub_cons rfl (sub_cons rfl sub_nil))))), (hM.pick [] (by decide) rfl)⟩
      refine wp_block ?_
      refine wp_seq_k fun K132 hK132 => ?_
      have hJ8 : ∀ (p135 : Bool) (a : Act) (w : World), Sl 61 [(0, (Value.string (bs p0_s))), (4, (Value.int IntKind.i64 x86)), (5, (Value.int IntKind.i64 x87)), (6, (Value.int IntKind.i64 x88)), (26, (Value.bool p135))] a → Mem Nob w0 w [] → S_spec_ParseInt_j8 F p0_s x86 x87 x88 p135 = some res5 → K132 a w := by
        intro p135 a w hS hM hF
        unfold S_spec_ParseInt_j8 at hF
        refine hK132 _ _ ?_
        rcases ite_some hF with ⟨hc, hF⟩ | ⟨hc, hF⟩
        · refine cond_t hS rfl hc ?_
          refine wp_seq_k fun K136 hK136 => ?_
          refine wp_region_lit ?_
          refine st_val hS rfl rfl (by decide) (rv_move (hS.ev rfl)) fun a hS => ?_
          refine st_val hS rfl rfl (by decide) (rv_mul (hS.ev rfl) (hS.ev rfl)) fun a hS => ?_
          refine st_val hS rfl rfl (by decide) (rv_move (hS.ev rfl)) fun a hS => ?_
          refine st_val hS rfl rfl (by decide) (rv_move (hS.ev rfl)) fun a hS => ?_
          obtain ⟨x138, hx, hF⟩ := bind_some hF
          obtain ⟨hi0, hi1, hi2⟩ := idxL_some hx
          refine st_val hS rfl rfl (by decide) (rv_index Tryd.underlying9 (hS.ev rfl) (hS.ev rfl) hi0 hi2) fun a hS => ?_
          refine st_val hS rfl rfl (by decide) (rv_sub (hS.ev rfl) (hS.ev rfl)) fun a hS => ?_
          refine st_val hS rfl rfl (by decide) (rv_conv Tryd.underlying5 Tryd.underlying3 (hS.ev rfl)) fun a hS => ?_
          refine st_val hS rfl rfl (by decide) (rv_add (hS.ev rfl) (hS.ev rfl)) fun a hS => ?_
          refine st_val hS rfl rfl (by decide) (rv_assign (hS.ev rfl)) fun a hS => ?_
          refine wpList_nil ?_
          refine hK136 _ _ ?_
          refine wp_region_lit ?_
          refine st_val hS rfl rfl (by decide) (rv_move (hS.ev rfl)) fun a hS => ?_
          refine st_val hS rfl rfl (by decide) (rv_add (hS.ev rfl) (hS.ev rfl)) fun a hS => ?_
          refine st_val hS rfl rfl (by decide) (rv_assign (hS.ev rfl)) fun a hS => ?_
          refine wpList_nil ?_
          exact hJ7 (IntKind.i64.wrap ((IntKind.i64.wrap (x86 * 10)) + (IntKind.i64.wrap (IntKind.u8.wrap ((x138.toNat : Int) - 48))))) (IntKind.i64.wrap (x87 + 1)) _ _ (hS.sub (sub_cons rfl (sub_cons rfl (sub_cons rfl (sub_cons rfl sub_nil))))) (hM.pick [] (by decide) rfl) hF
        · refine cond_f hS rfl hc ?_
          refine wp_skip ?_
          exact hJ7 x86 x87 _ _ (hS.sub (sub_cons rfl (sub_cons rfl (sub_cons rfl (sub_cons rfl sub_nil))))) (hM.pick [] (by decide) rfl) hF
      refine wp_region_lit ?_
      refine st_val hS rfl rfl (by decide) (rv_move (hS.ev rfl)) fun a hS => ?_
      refine st_val hS rfl rfl (by decide) (rv_move (hS.ev rfl)) fun a hS => ?_
      obtain ⟨x139, hx, hF⟩ := bind_some hF
      obtain ⟨hi0, hi1, hi2⟩ := idxL_some hx
      refine st_val hS rfl rfl (by decide) (rv_index Tryd.underlying9 (hS.ev rfl) (hS.ev rfl) hi0 hi2) fun a hS => ?_
      refine st_val hS rfl rfl (by decide) (rv_geq (hS.ev rfl) (hS.ev rfl)) fun a hS => ?_
      refine st_val hS rfl rfl (by decide) (rv_move (hS.ev rfl)) fun a hS => ?_
      rcases ite_some hF with ⟨hc, hF⟩ | ⟨hc, hF⟩
      · have hS := hS.setb (t := 21) rfl hc
        refine st_val hS rfl rfl (by decide) (rv_move (hS.ev rfl)) fun a hS => ?_
        refine st_val hS rfl rfl (by decide) (rv_move (hS.ev rfl)) fun a hS => ?_
        obtain ⟨x140, hx, hF⟩ := bind_some hF
        obtain ⟨hi0, hi1, hi2⟩ := idxL_some hx
        refine st_val hS rfl rfl (by decide) (rv_index Tryd.underlying9 (hS.ev rfl) (hS.ev rfl) hi0 hi2) fun a hS => ?_
        refine st_val hS rfl rfl (by decide) (rv_leq (hS.ev rfl) (hS.ev rfl)) fun a hS => ?_
        refine st_val hS rfl rfl (by decide) (rv_pick_t (hS.ev rfl) (hS.ev rfl)) fun a hS => ?_
        refine wpList_nil ?_
        exact hJ8 (decide ((x140.toNat : Int) ≤ 57)) _ _ (hS.sub (sub_cons rfl (sub_cons rfl (sub_cons rfl (sub_cons rfl (sub_cons rfl sub_nil)))))) (hM.pick [] (by decide) rfl) hF
      · have hS := hS.setb (t := 21) rfl hc
        refine st_skip hS rfl rfl (by decide) fun a hS => ?_
        refine st_skip hS rfl rfl (by decide) fun a hS => ?_
        refine st_skip hS rfl rfl (by decide) fun a hS => ?_
        refine st_skip hS rfl rfl (by decide) fun a hS => ?_
        refine st_val hS rfl rfl (by decide) (rv_pick_f (hS.ev rfl) (hS.ev rfl)) fun a hS => ?_
        refine wpList_nil ?_
        exact hJ8 false _ _ (hS.sub (sub_cons rfl (sub_cons rfl (sub_cons rfl (sub_cons rfl (sub_cons rfl sub_nil)))))) (hM.pick [] (by decide) rfl) hF
    · refine cond_f hS rfl hc ?_
      refine wp_exit ?_
      cases hF
      exact hJ1 x86 x87 _ _ (hS.sub (sub_cons rfl (sub_cons rfl (sub_cons rfl sub_nil)))) (hM.pick [] (by decide) rfl) (by have e := hX5 _ rfl; subst e; exact hF5)
  refine wp_region_lit ?_
  refine st_val hS rfl rfl (by decide) (rv_move (hS.ev rfl)) fun a hS => ?_
  refine st_val hS rfl rfl (by decide) (rv_move (hS.ev rfl)) fun a hS => ?_
  refine st_val hS rfl rfl (by decide) (rv_len_str Tryd.underlying9 (hS.ev rfl)) fun a hS => ?_
  refine st_val hS rfl rfl (by decide) (rv_lss (hS.ev rfl) (hS.ev rfl)) fun a hS => ?_
  refine st_val hS rfl rfl (by decide) (rv_move (hS.ev rfl)) fun a hS => ?_
  rcases ite_some hF with ⟨hc, hF⟩ | ⟨hc, hF⟩
  · have hS := hS.setb (t := 11) rfl hc
    refine st_val hS rfl rfl (by decide) (rv_move (hS.ev rfl)) fun a hS => ?_
    refine st_val hS rfl rfl (by decide) (rv_lss (hS.ev rfl) (hS.ev rfl)) fun a hS => ?_
    refine st_val hS rfl rfl (by decide) (rv_pick_t (hS.ev rfl) (hS.ev rfl)) fun a hS => ?_
    refine wpList_nil ?_
    exact hJ6 (decide (x88 < 11)) _ _ (hS.sub (sub_cons rfl (sub_cons rfl (sub_cons rfl (sub_cons rfl (sub_cons rfl sub_nil)))))) (hM.pick [] (by decide) rfl) hF
  · have hS := hS.setb (t := 11) rfl hc
    refine st_skip hS rfl rfl (by decide) fun a hS => ?_
    refine st_skip hS rfl rfl (by decide) fun a hS => ?_
    refine st_val hS rfl rfl (by decide) (rv_pick_f (hS.ev rfl) (hS.ev rfl)) fun a hS => ?_
    refine wpList_nil ?_
    exact hJ6 false _ _ (hS.sub (sub_cons rfl (sub_cons rfl (sub_cons rfl (sub_cons rfl (sub_cons rfl sub_nil)))))) (hM.pick [] (by decide) rfl) hF


theorem c_laws_FnExactParseInt (F : Nat) (p0_aS : List UInt8) {r : Bool} (hF : S_laws_FnExactParseInt F p0_aS = some r) (w0 : World) (h0 : (tabR Tryd.prog tabN).P w0) (h1 : (synR Tryd.prog synN).P w0) :
    Calls Tryd.prog 7 [(Value.string (bs p0_aS))].toArray w0 (retPost fun v w' => v = (Value.bool r) ∧ Mem Nob w0 w' []) := by
  have hM : Mem Nob w0 w0 [(false, tabR Tryd.prog tabN), (false, synR Tryd.prog synN)] := (Mem.gcons (Mem.gcons (Mem.nil w0) h1 (by simp)) h0 (by simp))
  refine enter2 Tryd.func7 rfl rfl rfl fun Q a hQr hQn hQp hS => ?_
  have hS : Sl 28 [(0, (Value.string (bs p0_aS)))] a := hS
  unfold S_laws_FnExactParseInt at hF
  refine wp_seq_k fun K1 hK1 => ?_
  refine wp_region_lit ?_
  refine st_val hS rfl rfl (by decide) (rv_assign (hS.ev rfl)) fun a hS => ?_
  refine wpList_nil ?_
  refine hK1 _ _ ?_
  refine wp_seq_k fun K2 hK2 => ?_
  refine wp_seq_k fun K5 hK5 => ?_
  refine wp_region_lit ?_
  refine st_val hS rfl rfl (by decide) (rv_move (hS.ev rfl)) fun a hS => ?_
  refine st_val hS rfl rfl (by decide) (rv_len_str Tryd.underlying9 (hS.ev rfl)) fun a hS => ?_
  refine st_val hS rfl rfl (by decide) (rv_gtr (hS.ev rfl) (hS.ev rfl)) fun a hS => ?_
  refine wpList_nil ?_
  refine hK5 _ _ ?_
  rcases ite_some hF with ⟨hc, hF⟩ | ⟨hc, hF⟩
  · refine cond_t hS rfl hc ?_
    refine wp_seq_k fun K6 hK6 => ?_
    refine wp_region_lit ?_
    refine st_val hS rfl rfl (by decide) (rv_assign (hS.ev rfl)) fun a hS => ?_
    refine wpList_nil ?_
    refine hK6 _ _ ?_
    refine wp_ret ?_
    cases hF
    exact hQr _ _ (r_1 hS rfl rfl ⟨rfl, hM.pick [] (by decide) rfl⟩)
  · refine cond_f hS rfl hc ?_
    refine wp_skip ?_
    refine hK2 _ _ ?_
    refine wp_seq_k fun K7 hK7 => ?_
    refine wp_region_lit ?_
    refine st_val hS rfl rfl (by decide) (rv_move (hS.ev rfl)) fun a hS => ?_
    obtain ⟨r9, hr, hF⟩ := bind_some hF
    refine st_wp hS rfl (wp_call hS rfl rfl (by decide) fn_ok_30 rfl (c_spec_ParseInt F p0_aS hr _) fun v w a hK hS => ?_)
    obtain ⟨rfl, hN⟩ := hK
    have hM := hM.fra hN.fr
    refine st_val hS rfl rfl (by decide) (rv_move (hS.ev rfl)) fun a hS => ?_
    refine st_val hS rfl rfl (by decide) (rv_extract (hS.ev rfl) rfl) fun a hS => ?_
    refine st_val hS rfl rfl (by decide) (rv_extract (hS.ev rfl) rfl) fun a hS => ?_
    refine st_val hS rfl rfl (by decide) (rv_assign (hS.ev rfl)) fun a hS => ?_
    refine st_val hS rfl rfl (by decide) (rv_assign (hS.ev rfl)) fun a hS => ?_
    refine wpList_nil ?_
    refine hK7 _ _ ?_
    refine wp_seq_k fun K10 hK10 => ?_
    refine wp_region_lit ?_
    refine st_val hS rfl rfl (by decide) (rv_move (hS.ev rfl)) fun a hS => ?_
    obtain ⟨r12, hr, hF⟩ := bind_some hF
    refine st_wp hS rfl (wp_call hS rfl rfl (by decide) fn_ok_21 rfl (c_impl_ParseInt F p0_aS hr _ (hM.get 0 rfl) (hM.get 1 rfl)) fun v w a hK hS => ?_)
    obtain ⟨rfl, hN⟩ := hK
    have hM := hM.fra hN.fr
    refine st_val hS rfl rfl (by decide) (rv_move (hS.ev rfl)) fun a hS => ?_
    refine st_val hS rfl rfl (by decide) (rv_extract (hS.ev rfl) rfl) fun a hS => ?_
    refine st_val hS rfl rfl (by decide) (rv_extract (hS.ev rfl) rfl) fun a hS => ?_
    refine st_val hS rfl rfl (by decide) (rv_assign (hS.ev rfl)) fun a hS => ?_
    refine st_val hS rfl rfl (by decide) (rv_assign (hS.ev rfl)) fun a hS => ?_
    refine wpList_nil ?_
    refine hK10 _ _ ?_
    refine wp_seq_k fun K13 hK13 => ?_
    refine wp_seq_k fun K17 hK17 => ?_
    have hJ1 : ∀ (p18 : Bool) (a : Act) (w : World), Sl 28 [(27, (Value.bool p18))] a → Mem Nob w0 w [(false, tabR Tryd.prog tabN), (false, synR Tryd.prog synN)] → S_laws_FnExactParseInt_j1 F p18 = some r → K17 a w := by
      intro p18 a w hS hM hF
      unfold S_laws_FnExactParseInt_j1 at hF
      refine hK17 _ _ ?_
      rcases ite_some hF with ⟨hc, hF⟩ | ⟨hc, hF⟩
      · refine cond_t hS rfl hc ?_
        refine wp_seq_k fun K19 hK19 => ?_
        refine wp_region_lit ?_
        refine st_val hS rfl rfl (by decide) (rv_assign (hS.ev rfl)) fun a hS => ?_
        refine wpList_nil ?_
        refine hK19 _ _ ?_
        refine wp_ret ?_
        cases hF
        exact hQr _ _ (r_1 hS rfl rfl ⟨rfl, hM.pick [] (by decide) rfl⟩)
      · refine cond_f hS rfl hc ?_
        refine wp_skip ?_
        refine hK13 _ _ ?_
        refine wp_seq_k fun K20 hK20 => ?_
        refine wp_region_lit ?_
        refine st_val hS rfl rfl (by decide) (rv_assign (hS.ev rfl)) fun a hS => ?_
        refine wpList_nil ?_
        refine hK20 _ _ ?_
        refine wp_ret ?_
        cases hF
        exact hQr _ _ (r_1 hS rfl rfl ⟨rfl, hM.pick [] (by decide) rfl⟩)
    refine wp_region_lit ?_
    refine st_val hS rfl rfl (by decide) (rv_move (hS.ev rfl)) fun a hS => ?_
    refine st_val hS rfl rfl (by decide) (rv_move (hS.ev rfl)) fun a hS => ?_
    refine st_val hS rfl rfl (by decide) (rv_neq (hS.ev rfl) (hS.ev rfl)) fun a hS => ?_
    refine st_val hS rfl rfl (by decide) (rv_move (hS.ev rfl)) fun a hS => ?_
    rcases ite_some hF with ⟨hc, hF⟩ | ⟨hc, hF⟩
    · have hS := hS.setb (t := 23) rfl hc
      refine st_skip hS rfl rfl (by decide) fun a hS => ?_
      refine st_skip hS rfl rfl (by decide) fun a hS => ?_
      refine st_skip hS rfl rfl (by decide) fun a hS => ?_
      refine st_val hS rfl rfl (by decide) (rv_pick_t (hS.ev rfl) (hS.ev rfl)) fun a hS => ?_
      refine wpList_nil ?_
      exact hJ1 true _ _ (hS.sub (sub_cons rfl sub_nil)) (hM.pick [0, 1] (by decide) rfl) hF
    · have hS := hS.setb (t := 23) rfl hc
      refine st_val hS rfl rfl (by decide) (rv_move (hS.ev rfl)) fun a hS => ?_
      refine st_val hS rfl rfl (by decide) (rv_move (hS.ev rfl)) fun a hS => ?_
      refine st_val hS rfl rfl (by decide) (rv_bneq Tryd.underlying4 (hS.ev rfl) (hS.ev rfl)) fun a hS => ?_
      refine st_val hS rfl rfl (by decide) (rv_pick_f (hS.ev rfl) (hS.ev rfl)) fun a hS => ?_
      refine wpList_nil ?_
      exact hJ1 (r12.2 != r9.2) _ _ (hS.sub (sub_cons rfl sub_nil)) (hM.pick [0, 1] (by decide) rfl) hF


theorem c_spec_l2Cut (F : Nat) (p0_s : List UInt8) (p1_by : Int) {r : (List (List UInt8))} (hF : S_spec_l2Cut F p0_s p1_by = some r) (w0 : World) :
    Calls Tryd.prog 55 [(Value.string (bs p0_s)), (Value.int IntKind.u8 p1_by)].toArray w0 (retPost fun v w' => Mem Nob w0 w' [(true, ow 9 v (List.map (fun s => Value.string (bs s)) r))]) := by
  have hM : Mem Nob w0 w0 [] := (Mem.nil w0)
  refine enter2 Tryd.func55 rfl rfl rfl fun Q a hQr hQn hQp hS => ?_
  have hS : Sl 35 [(0, (Value.string (bs p0_s))), (1, (Value.int IntKind.u8 p1_by))] a := hS
  unfold S_spec_l2Cut at hF
  refine wp_seq_k fun K1 hK1 => ?_
  refine wp_region_lit ?_
  refine st_val hS rfl rfl (by decide) (rv_assign (hS.ev rfl)) fun a hS => ?_
  refine wpList_nil ?_
  refine hK1 _ _ ?_
  refine wp_seq_k fun K2 hK2 => ?_
  refine wp_region_lit ?_
  obtain ⟨v4, w, hr, hM⟩ := Mem.litE (f := (fun s => Value.string (bs s))) (dst := some 8) (ty := _) (pos := _) (af := _) (gd := _) (ps := []) ([] : List (List UInt8)) str_one hM hS Tryd.underlying71 ty_el_9 rfl rfl rfl rfl
  refine st_val hS rfl rfl (by decide) hr fun a hS => ?_
  refine st_val hS rfl rfl (by decide) (rv_assign (hS.ev rfl)) fun a hS => ?_
  refine wpList_nil ?_
  refine hK2 _ _ ?_
  refine wp_seq_k fun K5 hK5 => ?_
  refine wp_region_lit ?_
  refine st_val hS rfl rfl (by decide) (rv_assign (hS.ev rfl)) fun a hS => ?_
  refine wpList_nil ?_
  refine hK5 _ _ ?_
  refine wp_seq_k fun K6 hK6 => ?_
  have hJ1 : ∀ (l59 : List (List UInt8)) (s60 : List UInt8) (v58 : Value) (a : Act) (w : World), Sl 35 [(5, v58), (6, (Value.string (bs s60)))] a → Mem Nob w0 w [(true, ow 9 v58 (List.map (fun s => Value.string (bs s)) l59))] → S_spec_l2Cut_j1 F l59 s60 = some r → K6 a w := by
    intro l59 s60 v58 a w hS hM hF
    unfold S_spec_l2Cut_j1 at hF
    refine hK6 _ _ ?_
    refine wp_seq_k fun K61 hK61 => ?_
    refine wp_region_lit ?_
    refine st_val hS rfl rfl (by decide) (rv_move (hS.ev rfl)) fun a hS => ?_
    refine st_val hS rfl rfl (by decide) (rv_move (hS.ev rfl)) fun a hS => ?_
    obtain ⟨v64, w, hr, hM⟩ := Mem.litE (f := (fun s => Value.string (bs s))) (dst := some 33) (ty := _) (pos := _) (af := _) (gd := _) (ps := [(0, .tmp 32)]) ([s60] : List (List UInt8)) str_one hM hS Tryd.underlying71 ty_el_9 rfl rfl rfl rfl
    refine st_val hS rfl rfl (by decide) hr fun a hS => ?_
    obtain ⟨_, hx, hF⟩ := bind_some hF
    have hM := hM.pick [1, 0] (by decide) rfl
    obtain ⟨v65, w, hr, hM⟩ := Mem.appE (f := (fun s => Value.string (bs s))) (S := _) (R := [(true, ow 9 v64 (List.map (fun s => Value.string (bs s)) ([s60] : List (List UInt8))))]) (ρ := a.eval) (dst := some 34) (ty := _) (pos := _) (af := _) (gd := _) (x := .tmp 31) (y := .tmp 33) str_one hM Tryd.underlying71 ty_el_9 rfl (by decide) (hS.ev rfl) (hS.ev rfl) (rd_of_ow (hM.get 1 rfl)) (catO_some hx)
    refine st_val hS rfl rfl (by decide) hr fun a hS => ?_
    refine st_val hS rfl rfl (by decide) (rv_assign (hS.ev rfl)) fun a hS => ?_
    refine wpList_nil ?_
    refine hK61 _ _ ?_
    refine wp_ret ?_
    cases hF
    exact hQr _ _ (r_1 hS rfl rfl (hM.pick [0] (by decide) rfl))
  refine wp_seq_k fun K66 hK66 => ?_
  refine wp_region_lit ?_
  refine st_val hS rfl rfl (by decide) (rv_assign (hS.ev rfl)) fun a hS => ?_
  refine wpList_nil ?_
  refine hK66 _ _ ?_
  refine wp_block ?_
  obtain ⟨lb2, hl2, hF2⟩ := bind_some hF
  refine wp_loop_sh (fun s => S_spec_l2Cut_l2 F p0_s p1_by s.1 s.2.1 s.2.2) (fun s a w => ∃ (v67 : Value), Sl 35 [(0, (Value.string (bs p0_s))), (1, (Value.int IntKind.u8 p1_by)), (5, v67), (6, (Value.string (bs s.2.1))), (7, (Value.int IntKind.i64 s.2.2))] a ∧ Mem Nob w0 w [(true, ow 9 v67 (List.map (fun s => Value.string (bs s)) s.1))]) hl2 ⟨v4, (hS.sub (sub_cons rfl (sub_cons rfl (sub_cons rfl (sub_cons rfl (sub_cons rfl sub_nil)))))), (hM.pick [0] (by decide) rfl)⟩ ?_
  rintro K2 ⟨l68, s69, x70⟩ a w res2 ⟨v67, hS, hM⟩ hF hN2 hX2
  have hF : S_spec_l2Cut_l2 F p0_s p1_by l68 s69 x70 = some res2 := hF
  have hS : Sl 35 [(0, (Value.string (bs p0_s))), (1, (Value.int IntKind.u8 p1_by)), (5, v67), (6, (Value.string (bs s69))), (7, (Value.int IntKind.i64 x70))] a := hS
  have hM : Mem Nob w0 w [(true, ow 9 v67 (List.map (fun s => Value.string (bs s)) l68))] := hM
  unfold S_spec_l2Cut_l2 at hF
  refine wp_seq_k fun K94 hK94 => ?_
  refine wp_seq_k fun K96 hK96 => ?_
  refine wp_region_lit ?_
  refine st_val hS rfl rfl (by decide) (rv_move (hS.ev rfl)) fun a hS => ?_
  refine st_val hS rfl rfl (by decide) (rv_move (hS.ev rfl)) fun a hS => ?_
  refine st_val hS rfl rfl (by decide) (rv_len_str Tryd.underlying9 (hS.ev rfl)) fun a hS => ?_
  refine st_val hS rfl rfl (by decide) (rv_lss (hS.ev rfl) (hS.ev rfl)) fun a hS => ?_
  refine wpList_nil ?_
  refine hK96 _ _ ?_
  rcases ite_some hF with ⟨hc, hF⟩ | ⟨hc, hF⟩
  · refine cond_t hS rfl hc ?_
    refine wp_skip ?_
    refine hK94 _ _ ?_
    refine wp_seq_k fun K97 hK97 => ?_
    have hJ3 : ∀ (l107 : List (List UInt8)) (s108 : List UInt8) (v106 : Value) (a : Act) (w : World), Sl 35 [(0, (Value.string (bs p0_s))), (1, (Value.int IntKind.u8 p1_by)), (5, v106), (6, (Value.string (bs s108))), (7, (Value.int IntKind.i64 x70))] a → Mem Nob w0 w [(true, ow 9 v106 (List.map (fun s => Value.string (bs s)) l107))] → S_spec_l2Cut_j3 F x70 l107 s108 = some res2 → K97 a w := by
      intro l107 s108 v106 a w hS hM hF
      unfold S_spec_l2Cut_j3 at hF
      refine hK97 _ _ ?_
      refine wp_region_lit ?_
      refine st_val hS rfl rfl (by decide) (rv_move (hS.ev rfl)) fun a hS => ?_
      refine st_val hS rfl rfl (by decide) (rv_add (hS.ev rfl) (hS.ev rfl)) fun a hS => ?_
      refine st_val hS rfl rfl (by decide) (rv_assign (hS.ev rfl)) fun a hS => ?_
      refine wpList_nil ?_
      cases hF
      exact hN2 _ _ _ rfl ⟨v106, (hS.sub (sub_cons rfl (sub_cons rfl (sub_cons rfl (sub_cons rfl (sub_cons rfl sub_nil)))))), (hM.pick [0] (by decide) rfl)⟩
    refine wp_block ?_
    refine wp_seq_k fun K109 hK109 => ?_
    refine wp_region_lit ?_
    refine st_val hS rfl rfl (by decide) (rv_move (hS.ev rfl)) fun a hS => ?_
    refine st_val hS rfl rfl (by decide) (rv_move (hS.ev rfl)) fun a hS => ?_
    obtain ⟨x111, hx, hF⟩ := bind_some hF
    obtain ⟨hi0, hi1, hi2⟩ := idxL_some hx
    refine st_val hS rfl rfl (by decide) (rv_index Tryd.underlying9 (hS.ev rfl) (hS.ev rfl) hi0 hi2) fun a hS => ?_
    refine st_val hS rfl rfl (by decide) (rv_move (hS.ev rfl)) fun a hS => ?_
    refine st_val hS rfl rfl (by decide) (rv_eql (hS.ev rfl) (hS.ev rfl)) fun a hS => ?_
    refine wpList_nil ?_
    refine hK109 _ _ ?_
    rcases ite_some hF with ⟨hc, hF⟩ | ⟨hc, hF⟩
    · refine cond_t hS rfl hc ?_
      refine wp_seq_k fun K112 hK112 => ?_
      refine wp_region_lit ?_
      refine st_val hS rfl rfl (by decide) (rv_move (hS.ev rfl)) fun a hS => ?_
      refine st_val hS rfl rfl (by decide) (rv_move (hS.ev rfl)) fun a hS => ?_
      obtain ⟨v115, w, hr, hM⟩ := Mem.litE (f := (fun s => Value.string (bs s))) (dst := some 22) (ty := _) (pos := _) (af := _) (gd := _) (ps := [(0, .tmp 21)]) ([s69] : List (List UInt8)) str_one hM hS Tryd.underlying71 ty_el_9 rfl rfl rfl rfl
      refine st_val hS rfl rfl (by decide) hr fun a hS => ?_
      obtain ⟨_, hx, hF⟩ := bind_some hF
      have hM := hM.pick [1, 0] (by decide) rfl
      obtain ⟨v116, w, hr, hM⟩ := Mem.appE (f := (fun s => Value.string (bs s))) (S := _) (R := [(true, ow 9 v115 (List.map (fun s => Value.string (bs s)) ([s69] : List (List UInt8))))]) (ρ := a.eval) (dst := some 23) (ty := _) (pos := _) (af := _) (gd := _) (x := .tmp 20) (y := .tmp 22) str_one hM Tryd.underlying71 ty_el_9 rfl (by decide) (hS.ev rfl) (hS.ev rfl) (rd_of_ow (hM.get 1 rfl)) (catO_some hx)
      refine st_val hS rfl rfl (by decide) hr fun a hS => ?_
      refine st_val hS rfl rfl (by decide) (rv_assign (hS.ev rfl)) fun a hS => ?_
      refine wpList_nil ?_
      refine hK112 _ _ ?_
      refine wp_region_lit ?_
      refine st_val hS rfl rfl (by decide) (rv_assign (hS.ev rfl)) fun a hS => ?_
      refine wpList_nil ?_
      exact hJ3 (l68 ++ ([s69] : List (List UInt8))) ([] : List UInt8) v116 _ _ (hS.sub (sub_cons rfl (sub_cons rfl (sub_cons rfl (sub_cons rfl (sub_cons rfl sub_nil)))))) (hM.pick [0] (by decide) rfl) hF
    · refine cond_f hS rfl hc ?_
      refine wp_region_lit ?_
      refine st_val hS rfl rfl (by decide) (rv_move (hS.ev rfl)) fun a hS => ?_
      refine st_val hS rfl rfl (by decide) (rv_move (hS.ev rfl)) fun a hS => ?_
      refine st_val hS rfl rfl (by decide) (rv_move (hS.ev rfl)) fun a hS => ?_
      refine st_val hS rfl rfl (by decide) (rv_move (hS.ev rfl)) fun a hS => ?_
      refine st_val hS rfl rfl (by decide) (rv_add (hS.ev rfl) (hS.ev rfl)) fun a hS => ?_
      obtain ⟨_, hx, hF⟩ := bind_some hF
      have hi0 := sl2O_some hx
      refine st_val hS rfl rfl (by decide) (rv_sliceS (i := x70) (j := (IntKind.i64.wrap (x70 + 1))) (k1 := .i64) (k2 := .i64) Tryd.underlying9 (hS.ev rfl) (.inl (congrArg some (hS.ev rfl))) (.inl (congrArg some (hS.ev rfl))) hi0) fun a hS => ?_
      obtain ⟨_, hx, hF⟩ := bind_some hF
      have hi0 := catO_some hx
      refine st_val hS rfl rfl (by decide) (rv_str_add (hS.ev rfl) (hS.ev rfl) hi0) fun a hS => ?_
      refine st_val hS rfl rfl (by decide) (rv_assign (hS.ev rfl)) fun a hS => ?_
      refine wpList_nil ?_
      exact hJ3 l68 (s69 ++ ((p0_s.drop x70.toNat).take ((IntKind.i64.wrap (x70 + 1)).toNat - x70.toNat))) v67 _ _ (hS.sub (sub_cons rfl (sub_cons rfl (sub_cons rfl (sub_cons rfl (sub_cons rfl sub_nil)))))) (hM.pick [0] (by decide) rfl) hF
  · refine cond_f hS rfl hc ?_
    refine wp_exit ?_
    cases hF
    exact hJ1 l68 s69 v67 _ _ (hS.sub (sub_cons rfl (sub_cons rfl sub_nil))) (hM.pick [0] (by decide) rfl) (by have e := hX2 _ rfl; subst e; exact hF2)


theorem c_spec_l2Copy (F : Nat) (p0_g_Size : Int) (p0_g_Rows : List Int) (p0_g_Rowsv : Value) {r : Int × (List (Int))} (hF : S_spec_l2Copy F p0_g_Size p0_g_Rows = some r) (w0 : World) (h0 : RdRow w0 p0_g_Rowsv (List.map (Value.int IntKind.i64) p0_g_Rows)) :
    Calls Tryd.prog 66 [(Value.agg #[(Value.int IntKind.i64 p0_g_Size), p0_g_Rowsv])].toArray w0 (retPost fun v w' => ∃ v11, v = (Value.agg #[(Value.int IntKind.i64 r.1), v11]) ∧ Mem Nob w0 w' [(true, ow 3 v11 (List.map (Value.int IntKind.i64) r.2))]) := by
  have hM : Mem Nob w0 w0 [(false, rd p0_g_Rowsv (List.map (Value.int IntKind.i64) p0_g_Rows))] := (Mem.rcons (Mem.nil w0) h0 (by simp))
  refine enter2 Tryd.func66 rfl rfl rfl fun Q a hQr hQn hQp hS => ?_
  have hS : Sl 10 [(0, (Value.agg #[(Value.int IntKind.i64 p0_g_Size), p0_g_Rowsv]))] a := hS
  unfold S_spec_l2Copy at hF
  refine wp_seq_k fun K1 hK1 => ?_
  refine wp_region_lit ?_
  obtain ⟨b4, w, hr, hM⟩ := hM.boxE (ρ := a.eval) (dst := some 1) (ty := _) (pos := _) (af := _) (gd := _) (x := .tmp 0) (T := 43) [(Value.int IntKind.i64 p0_g_Size), p0_g_Rowsv] (hS.ev rfl) rfl
  refine st_val hS rfl rfl (by decide) hr fun a hS => ?_
  obtain ⟨b5, w, hr, hM⟩ := hM.allocE (ρ := a.eval) (dst := some 2) (ty := _) (pos := _) (af := _) (gd := _) (T := 43) (P := Tryd.prog) [(Value.int IntKind.i64 0), (Value.slice none 0 0)] ty_zr_43 rfl
  refine st_val hS rfl rfl (by decide) hr fun a hS => ?_
  have hM := hM.addNil 3
  refine wpList_nil ?_
  refine hK1 _ _ ?_
  refine wp_seq_k fun K6 hK6 => ?_
  have hM := hM.pick [1, 0, 2, 3] (by decide) rfl
  refine an_start (feet [(true, bx b5 43 [(Value.int IntKind.i64 0), (Value.slice none 0 0)])]) ty_mixed fun w hf => ?_
  have hM := hM.fra hf
  have hB := hM
  have hM := hB.reg1 rfl
  refine an_take hS (i := 0) rfl (by kernel_rfl) (by kernel_rfl) (by kernel_rfl) rfl (by decide) (fun c a a' w hd h => hQp c a a' w hd h) rfl (fun w' hC' => (rv_fieldAddr ty_fd_43_0 (hS.ev rfl))) hM.fr fun a hS => ?_
  refine an_take hS (i := 1) rfl (by kernel_rfl) (by kernel_rfl) (by kernel_rfl) rfl (by decide) (fun c a a' w hd h => hQp c a a' w hd h) rfl (fun w' hC' => (rv_load_bx (hS.ev rfl) ty_ag_3 (hB.getF rfl 1 rfl hC') rfl)) hM.fr fun a hS => ?_
  refine an_take hS (i := 3) rfl (by kernel_rfl) (by kernel_rfl) (by kernel_rfl) rfl (by decide) (fun c a a' w hd h => hQp c a a' w hd h) rfl (fun w' hC' => (rv_fieldAddr ty_fd_43_1 (hS.ev rfl))) hM.fr fun a hS => ?_
  refine an_take hS (i := 4) rfl (by kernel_rfl) (by kernel_rfl) (by kernel_rfl) rfl (by decide) (fun c a a' w hd h => hQp c a a' w hd h) rfl (fun w' hC' => (rv_load_bx (hS.ev rfl) ty_ag_38 (hB.getF rfl 1 rfl hC') rfl)) hM.fr fun a hS => ?_
  obtain ⟨v9, w, hr, hM⟩ := Mem.litE (f := (Value.int IntKind.i64)) (dst := some 5) (ty := _) (pos := _) (af := _) (gd := _) (ps := []) ([] : List (Int)) i64_one hM hS Tryd.underlying38 ty_el_3 rfl rfl rfl rfl
  refine an_one hS (i := 2) rfl (by kernel_rfl) rfl ?_
  refine wp_val hS rfl (by decide) hr fun a hS => ⟨hM.fr, ?_⟩
  obtain ⟨_, hx, hF⟩ := bind_some hF
  obtain ⟨v10, w, hr, hM⟩ := Mem.appE (f := (Value.int IntKind.i64)) (S := _) (R := [(true, bx b5 43 [(Value.int IntKind.i64 0), (Value.slice none 0 0)]), (false, ow 3 (Value.slice none 0 0) (List.map (Value.int IntKind.i64) ([] : List (Int)))), (false, bx b4 43 [(Value.int IntKind.i64 p0_g_Size), p0_g_Rowsv]), (false, rd p0_g_Rowsv (List.map (Value.int IntKind.i64) p0_g_Rows))]) (ρ := a.eval) (dst := some 8) (ty := _) (pos := _) (af := _) (gd := _) (x := .tmp 5) (y := .tmp 7) i64_one hM Tryd.underlying38 ty_el_3 rfl (by decide) (hS.ev rfl) (hS.ev rfl) (hM.get 4 rfl) (catO_some hx)
  refine an_one hS (i := 5) rfl (by kernel_rfl) rfl ?_
  refine wp_val hS rfl (by decide) hr fun a hS => ⟨hM.fr, ?_⟩
  refine an_take hS (i := 6) rfl (by kernel_rfl) (by kernel_rfl) (by kernel_rfl) rfl (by decide) (fun c a a' w hd h => hQp c a a' w hd h) rfl (fun w' hC' => (rv_build hS ty_st_43 rfl (by simp) (ones_cons (by rw [hS.ev (v := (Value.int IntKind.i64 p0_g_Size)) rfl]; rfl) (ones_cons (by rw [hS.ev (v := v10) rfl]; exact rd_one (rd_of_ow (hM.get 0 rfl))) ones_nil)))) hM.fr fun a hS => ?_
  have hM := hM.pick [1, 0, 2, 3, 4] (by decide) rfl
  obtain ⟨w, hr, hM⟩ := hM.st_agg (us := [(Value.int IntKind.i64 p0_g_Size), v10]) (ρ := a.eval) (dst := none) (ty := _) (pos := _) (af := _) (gd := _) (x := .tmp 2) (y := .tmp 9) (hS.ev rfl) (hS.ev rfl) ty_sz_43 (all1_cons rfl (all1_cons (rd_one (rd_of_ow (hM.get 1 rfl))) all1_nil)) rfl
  refine an_one hS (i := 7) rfl (by kernel_rfl) rfl ?_
  refine wp_unit hS rfl hr ⟨hM.fr, ?_⟩
  refine an_done (by kernel_rfl) ?_
  have hN := hM.pick [0, 1] (by decide) rfl
  have hM := Mem.callo (A := [(true, bx b5 43 [(Value.int IntKind.i64 0), (Value.slice none 0 0)])]) (B := [(true, ow 3 (Value.slice none 0 0) (List.map (Value.int IntKind.i64) ([] : List (Int)))), (true, bx b4 43 [(Value.int IntKind.i64 p0_g_Size), p0_g_Rowsv]), (false, rd p0_g_Rowsv (List.map (Value.int IntKind.i64) p0_g_Rows))]) hB rfl (hN.memS fun _ h => h) rfl
  refine hK6 _ _ ?_
  refine wp_ret ?_
  cases hF
  exact hQr _ _ (r_c hS rfl ⟨_, rfl, run_loadAgg ty_ag_43 (hM.get 0 rfl) ty_sz_43⟩ ⟨v10, rfl, hM.pick [1] (by decide) rfl⟩)


theorem c_spec_l2Pair (F : Nat) (p0_g_Size : Int) (p0_g_Rows : List Int) (p1_v : Int) (p2_w : Int) (p0_g_Rowsv : Value) {r : Bool} (hF : S_spec_l2Pair F p0_g_Size p0_g_Rows p1_v p2_w = some r) (w0 : World) (h0 : RdRow w0 p0_g_Rowsv (List.map (Value.int IntKind.i64) p0_g_Rows)) :
    Calls Tryd.prog 67 [(Value.agg #[(Value.int IntKind.i64 p0_g_Size), p0_g_Rowsv]), (Value.int IntKind.i64 p1_v), (Value.int IntKind.i64 p2_w)].toArray w0 (retPost fun v w' => v = (Value.bool r) ∧ Mem Nob w0 w' []) := by
  have hM : Mem Nob w0 w0 [(false, rd p0_g_Rowsv (List.map (Value.int IntKind.i64) p0_g_Rows))] := (Mem.rcons (Mem.nil w0) h0 (by simp))
  refine enter2 Tryd.func67 rfl rfl rfl fun Q a hQr hQn hQp hS => ?_
  have hS : Sl 34 [(0, (Value.agg #[(Value.int IntKind.i64 p0_g_Size), p0_g_Rowsv])), (1, (Value.int IntKind.i64 p1_v)), (2, (Value.int IntKind.i64 p2_w))] a := hS
  unfold S_spec_l2Pair at hF
  refine wp_seq_k fun K1 hK1 => ?_
  refine wp_region_lit ?_
  obtain ⟨b3, w, hr, hM⟩ := hM.boxE (ρ := a.eval) (dst := some 3) (ty := _) (pos := _) (af := _) (gd := _) (x := .tmp 0) (T := 43) [(Value.int IntKind.i64 p0_g_Size), p0_g_Rowsv] (hS.ev rfl) rfl
  refine st_val hS rfl rfl (by decide) hr fun a hS => ?_
  refine st_val hS rfl rfl (by decide) (rv_assign (hS.ev rfl)) fun a hS => ?_
  refine wpList_nil ?_
  refine hK1 _ _ ?_
  refine wp_seq_k fun K4 hK4 => ?_
  have hJ1 : ∀ (p6 : Bool) (a : Act) (w : World), Sl 34 [(6, (Value.bool p6))] a → Mem Nob w0 w [] → S_spec_l2Pair_j1 F p6 = some r → K4 a w := by
    intro p6 a w hS hM hF
    unfold S_spec_l2Pair_j1 at hF
    refine hK4 _ _ ?_
    refine wp_ret ?_
    cases hF
    exact hQr _ _ (r_1 hS rfl rfl ⟨rfl, hM.pick [] (by decide) rfl⟩)
  refine wp_region_lit ?_
  refine st_val hS rfl rfl (by decide) (rv_load_agg (hS.ev rfl) ty_ag_43 (hM.get 0 rfl) ty_sz_43) fun a hS => ?_
  obtain ⟨r7, hr, hF⟩ := bind_some hF
  refine st_wp hS rfl (wp_call hS rfl rfl (by decide) fn_ok_49 rfl (c_spec_IsGraph F p0_g_Size p0_g_Rows p0_g_Rowsv hr _ (hM.get 1 rfl)) fun v w a hK hS => ?_)
  obtain ⟨rfl, hN⟩ := hK
  have hM := hM.fra hN.fr
  refine st_val hS rfl rfl (by decide) (rv_move (hS.ev rfl)) fun a hS => ?_
  rcases ite_some hF with ⟨hc, hF⟩ | ⟨hc, hF⟩
  · have hS := hS.setb (t := 9) rfl hc
    refine st_val hS rfl rfl (by decide) (rv_move (hS.ev rfl)) fun a hS => ?_
    refine st_val hS rfl rfl (by decide) (rv_geq (hS.ev rfl) (hS.ev rfl)) fun a hS => ?_
    refine st_val hS rfl rfl (by decide) (rv_pick_t (hS.ev rfl) (hS.ev rfl)) fun a hS => ?_
    refine st_val hS rfl rfl (by decide) (rv_move (hS.ev rfl)) fun a hS => ?_
    rcases ite_some hF with ⟨hc, hF⟩ | ⟨hc, hF⟩
    · have hS := hS.setb (t := 13) rfl hc
      refine st_val hS rfl rfl (by decide) (rv_move (hS.ev rfl)) fun a hS => ?_
      refine st_val hS rfl rfl (by decide) (rv_geq (hS.ev rfl) (hS.ev rfl)) fun a hS => ?_
      refine st_val hS rfl rfl (by decide) (rv_pick_t (hS.ev rfl) (hS.ev rfl)) fun a hS => ?_
      refine st_val hS rfl rfl (by decide) (rv_move (hS.ev rfl)) fun a hS => ?_
      rcases ite_some hF with ⟨hc, hF⟩ | ⟨hc, hF⟩
      · have hS := hS.setb (t := 17) rfl hc
        refine st_val hS rfl rfl (by decide) (rv_move (hS.ev rfl)) fun a hS => ?_
        refine st_val hS rfl rfl (by decide) (rv_fieldAddr ty_fd_43_0 (hS.ev rfl)) fun a hS => ?_
        refine st_val hS rfl rfl (by decide) (rv_load_bx (hS.ev rfl) ty_ag_3 (hM.get 0 rfl) rfl) fun a hS => ?_
        refine st_val hS rfl rfl (by decide) (rv_lss (hS.ev rfl) (hS.ev rfl)) fun a hS => ?_
        refine st_val hS rfl rfl (by decide) (rv_pick_t (hS.ev rfl) (hS.ev rfl)) fun a hS => ?_
        refine st_val hS rfl rfl (by decide) (rv_move (hS.ev rfl)) fun a hS => ?_
        rcases ite_some hF with ⟨hc, hF⟩ | ⟨hc, hF⟩
        · have hS := hS.setb (t := 23) rfl hc
          refine st_val hS rfl rfl (by decide) (rv_move (hS.ev rfl)) fun a hS => ?_
          refine st_val hS rfl rfl (by decide) (rv_fieldAddr ty_fd_43_0 (hS.ev rfl)) fun a hS => ?_
          refine st_val hS rfl rfl (by decide) (rv_load_bx (hS.ev rfl) ty_ag_3 (hM.get 0 rfl) rfl) fun a hS => ?_
          refine st_val hS rfl rfl (by decide) (rv_lss (hS.ev rfl) (hS.ev rfl)) fun a hS => ?_
          refine st_val hS rfl rfl (by decide) (rv_pick_t (hS.ev rfl) (hS.ev rfl)) fun a hS => ?_
          refine st_val hS rfl rfl (by decide) (rv_move (hS.ev rfl)) fun a hS => ?_
          rcases ite_some hF with ⟨hc, hF⟩ | ⟨hc, hF⟩
          · have hS := hS.setb (t := 29) rfl hc
            refine st_val hS rfl rfl (by decide) (rv_move (hS.ev rfl)) fun a hS => ?_
            refine st_val hS rfl rfl (by decide) (rv_move (hS.ev rfl)) fun a hS => ?_
            refine st_val hS rfl rfl (by decide) (rv_neq (hS.ev rfl) (hS.ev rfl)) fun a hS => ?_
            refine st_val hS rfl rfl (by decide) (rv_pick_t (hS.ev rfl) (hS.ev rfl)) fun a hS => ?_
            refine st_val hS rfl rfl (by decide) (rv_assign (hS.ev rfl)) fun a hS => ?_
            refine wpList_nil ?_
            exact hJ1 (p1_v != p2_w) _ _ (hS.sub (sub_cons rfl sub_nil)) (hM.pick [] (by decide) rfl) hF
          · have hS := hS.setb (t := 29) rfl hc
            refine st_skip hS rfl rfl (by decide) fun a hS => ?_
            refine st_skip hS rfl rfl (by decide) fun a hS => ?_
            refine st_skip hS rfl rfl (by decide) fun a hS => ?_
            refine st_val hS rfl rfl (by decide) (rv_pick_f (hS.ev rfl) (hS.ev rfl)) fun a hS => ?_
            refine st_val hS rfl rfl (by decide) (rv_assign (hS.ev rfl)) fun a hS => ?_
            refine wpList_nil ?_
            exact hJ1 false _ _ (hS.sub (sub_cons rfl sub_nil)) (hM.pick [] (by decide) rfl) hF
        · have hS := hS.setb (t := 23) rfl hc
          refine st_skip hS rfl rfl (by decide) fun a hS => ?_
          refine st_skip hS rfl rfl (by decide) fun a hS => ?_
          refine st_skip hS rfl rfl (by decide) fun a hS => ?_
          refine st_skip hS rfl rfl (by decide) fun a hS => ?_
          refine st_val hS rfl rfl (by decide) (rv_pick_f (hS.ev rfl) (hS.ev rfl)) fun a hS => ?_
          refine st_val hS rfl rfl (by decide) (rv_move (hS.ev rfl)) fun a hS => ?_
          refine st_skip hS rfl rfl (by decide) fun a hS => ?_
          refine st_skip hS rfl rfl (by decide) fun a hS => ?_
          refine st_skip hS rfl rfl (by decide) fun a hS => ?_
          refine st_val hS rfl rfl (by decide) (rv_pick_f (hS.ev rfl) (hS.ev rfl)) fun a hS => ?_
          refine st_val hS rfl rfl (by decide) (rv_assign (hS.ev rfl)) fun a hS => ?_
          refine wpList_nil ?_
          exact hJ1 false _ _ (hS.sub (sub_cons rfl sub_nil)) (hM.pick [] (by decide) rfl) hF
      · have hS := hS.setb (t := 17) rfl hc
        refine st_skip hS rfl rfl (by decide) fun a hS => ?_
        refine st_skip hS rfl rfl (by decide) fun a hS => ?_
        refine st_skip hS rfl rfl (by decide) fun a hS => ?_
        refine st_skip hS rfl rfl (by decide) fun a hS => ?_
        refine st_val hS rfl rfl (by decide) (rv_pick_f (hS.ev rfl) (hS.ev rfl)) fun a hS => ?_
        refine st_val hS rfl rfl (by decide) (rv_move (hS.ev rfl)) fun a hS => ?_
        refine st_skip hS rfl rfl (by decide) fun a hS => ?_
        refine st_skip hS rfl rfl (by decide) fun a hS => ?_
        refine st_skip hS rfl rfl (by decide) fun a hS => ?_
        refine st_skip hS rfl rfl (by decide) fun a hS => ?_
        refine st_val hS rfl rfl (by decide) (rv_pick_f (hS.ev rfl) (hS.ev rfl)) fun a hS => ?_
        refine st_val hS rfl rfl (by decide) (rv_move (hS.ev rfl)) fun a hS => ?_
        refine st_skip hS rfl rfl (by decide) fun a hS => ?_
        refine st_skip hS rfl rfl (by decide) fun a hS => ?_
        refine st_skip hS rfl rfl (by decide) fun a hS => ?_
        refine st_val hS rfl rfl (by decide) (rv_pick_f (hS.ev rfl) (hS.ev rfl)) fun a hS => ?_
        refine st_val hS rfl rfl (by decide) (rv_assign (hS.ev rfl)) fun a hS => ?_
        refine wpList_nil ?_
        exact hJ1 false _ _ (hS.sub (sub_cons rfl sub_nil)) (hM.pick [] (by decide) rfl) hF
    · have hS := hS.setb (t := 13) rfl hc
      refine st_skip hS rfl rfl (by decide) fun a hS => ?_
      refine st_skip hS rfl rfl (by decide) fun a hS => ?_
      refine st_val hS rfl rfl (by decide) (rv_pick_f (hS.ev rfl) (hS.ev rfl)) fun a hS => ?_
      refine st_val hS rfl rfl (by decide) (rv_move (hS.ev rfl)) fun a hS => ?_
      refine st_skip hS rfl rfl (by decide) fun a hS => ?_
      refine st_skip hS rfl rfl (by decide) fun a hS => ?_
      refine st_skip hS rfl rfl (by decide) fun a hS => ?_
      refine st_skip hS rfl rfl (by decide) fun a hS => ?_
      refine st_val hS rfl rfl (by decide) (rv_pick_f (hS.ev rfl) (hS.ev rfl)) fun a hS => ?_
      refine st_val hS rfl rfl (by decide) (rv_move (hS.ev rfl)) fun a hS => ?_
      refine st_skip hS rfl rfl (by decide) fun a hS => ?_
      refine st_skip hS rfl rfl (by decide) fun a hS => ?_
      refine st_skip hS rfl rfl (by decide) fun a hS => ?_
      refine st_skip hS rfl rfl (by decide) fun a hS => ?_
      refine st_val hS rfl rfl (by decide) (rv_pick_f (hS.ev rfl) (hS.ev rfl)) fun a hS => ?_
      refine st_val hS rfl rfl (by decide) (rv_move (hS.ev rfl)) fun a hS => ?_
      refine st_skip hS rfl rfl (by decide) fun a hS => ?_
      refine st_skip hS rfl rfl (by decide) fun a hS => ?_
      refine st_skip hS rfl rfl (by decide) fun a hS => ?_
      refine st_val hS rfl rfl (by decide) (rv_pick_f (hS.ev rfl) (hS.ev rfl)) fun a hS => ?_
      refine st_val hS rfl rfl (by decide) (rv_assign (hS.ev rfl)) fun a hS => ?_
      refine wpList_nil ?_
      exact hJ1 false _ _ (hS.sub (sub_cons rfl sub_nil)) (hM.pick [] (by decide) rfl) hF
  · have hS := hS.setb (t := 9) rfl hc
    refine st_skip hS rfl rfl (by decide) fun a hS => ?_
    refine st_skip hS rfl rfl (by decide) fun a hS => ?_
    refine st_val hS rfl rfl (by decide) (rv_pick_f (hS.ev rfl) (hS.ev rfl)) fun a hS => ?_
    refine st_val hS rfl rfl (by decide) (rv_move (hS.ev rfl)) fun a hS => ?_
    refine st_skip hS rfl rfl (by decide) fun a hS => ?_
    refine st_skip hS rfl rfl (by decide) fun a hS => ?_
    refine st_val hS rfl rfl (by decide) (rv_pick_f (hS.ev rfl) (hS.ev rfl)) fun a hS => ?_
    refine st_val hS rfl rfl (by decide) (rv_move (hS.ev rfl)) fun a hS => ?_
    refine st_skip hS rfl rfl (by decide) fun a hS => ?_
    refine st_skip hS rfl rfl (by decide) fun a hS => ?_
    refine st_skip hS rfl rfl (by decide) fun a hS => ?_
    refine st_skip hS rfl rfl (by decide) fun a hS => ?_
    refine st_val hS rfl rfl (by decide) (rv_pick_f (hS.ev rfl) (hS.ev rfl)) fun a hS => ?_
    refine st_val hS rfl rfl (by decide) (rv_move (hS.ev rfl)) fun a hS => ?_
    refine st_skip hS rfl rfl (by decide) fun a hS => ?_
    refine st_skip hS rfl rfl (by decide) fun a hS => ?_
    refine st_skip hS rfl rfl (by decide) fun a hS => ?_
    refine st_skip hS rfl rfl (by decide) fun a hS => ?_
    refine st_val hS rfl rfl (by decide) (rv_pick_f (hS.ev rfl) (hS.ev rfl)) fun a hS => ?_
    refine st_val hS rfl rfl (by decide) (rv_move (hS.ev rfl)) fun a hS => ?_
    refine st_skip hS rfl rfl (by decide) fun a hS => ?_
    refine st_skip hS rfl rfl (by decide) fun a hS => ?_
    refine st_skip hS rfl rfl (by decide) fun a hS => ?_
    refine st_val hS rfl rfl (by decide) (rv_pick_f (hS.ev rfl) (hS.ev rfl)) fun a hS => ?_
    refine st_val hS rfl rfl (by decide) (rv_assign (hS.ev rfl)) fun a hS => ?_
    refine wpList_nil ?_
    exact hJ1 false _ _ (hS.sub (sub_cons rfl sub_nil)) (hM.pick [] (by decide) rfl) hF


theorem c_spec_AddEdge (F : Nat) (p0_g_Size : Int) (p0_g_Rows : List Int) (p1_v : Int) (p2_w : Int) (p0_g_Rowsv : Value) {r : Int × (List (Int)) × Bool} (hF : S_spec_AddEdge F p0_g_Size p0_g_Rows p1_v p2_w = some r) (w0 : World) (h0 : RdRow w0 p0_g_Rowsv (List.map (Value.int IntKind.i64) p0_g_Rows)) :
    Calls Tryd.prog 56 [(Value.agg #[(Value.int IntKind.i64 p0_g_Size), p0_g_Rowsv]), (Value.int IntKind.i64 p1_v), (Value.int IntKind.i64 p2_w)].toArray w0 (retPost fun v w' => ∃ v39, v = (Value.tuple #[(Value.agg #[(Value.int IntKind.i64 r.1), v39]), (Value.bool r.2.2)]) ∧ Mem Nob w0 w' [(true, ow 3 v39 (List.map (Value.int IntKind.i64) r.2.1))]) := by
  have hM : Mem Nob w0 w0 [(false, rd p0_g_Rowsv (List.map (Value.int IntKind.i64) p0_g_Rows))] := (Mem.rcons (Mem.nil w0) h0 (by simp))
  refine enter2 Tryd.func56 rfl rfl rfl fun Q a hQr hQn hQp hS => ?_
  have hS : Sl 48 [(0, (Value.agg #[(Value.int IntKind.i64 p0_g_Size), p0_g_Rowsv])), (1, (Value.int IntKind.i64 p1_v)), (2, (Value.int IntKind.i64 p2_w))] a := hS
  unfold S_spec_AddEdge at hF
  refine wp_seq_k fun K1 hK1 => ?_
  refine wp_region_lit ?_
  obtain ⟨b4, w, hr, hM⟩ := hM.boxE (ρ := a.eval) (dst := some 3) (ty := _) (pos := _) (af := _) (gd := _) (x := .tmp 0) (T := 43) [(Value.int IntKind.i64 p0_g_Size), p0_g_Rowsv] (hS.ev rfl) rfl
  refine st_val hS rfl rfl (by decide) hr fun a hS => ?_
  obtain ⟨b5, w, hr, hM⟩ := hM.allocE (ρ := a.eval) (dst := some 6) (ty := _) (pos := _) (af := _) (gd := _) (T := 43) (P := Tryd.prog) [(Value.int IntKind.i64 0), (Value.slice none 0 0)] ty_zr_43 rfl
  refine st_val hS rfl rfl (by decide) hr fun a hS => ?_
  have hM := hM.addNil 3
  refine st_val hS rfl rfl (by decide) (rv_assign (hS.ev rfl)) fun a hS => ?_
  refine wpList_nil ?_
  refine hK1 _ _ ?_
  refine wp_seq_k fun K6 hK6 => ?_
  refine wp_region_lit ?_
  refine st_val hS rfl rfl (by decide) (rv_load_agg (hS.ev rfl) ty_ag_43 (hM.get 2 rfl) ty_sz_43) fun a hS => ?_
  obtain ⟨r10, hr, hF⟩ := bind_some hF
  refine st_wp hS rfl (wp_call hS rfl rfl (by decide) fn_ok_66 rfl (c_spec_l2Copy F p0_g_Size p0_g_Rows p0_g_Rowsv hr _ (hM.get 3 rfl)) fun v w a hK hS => ?_)
  obtain ⟨v11, rfl, hN⟩ := hK
  have hM := hM.add hN rfl
  obtain ⟨b12, w, hr, hM⟩ := hM.allocE (ρ := a.eval) (dst := some 8) (ty := _) (pos := _) (af := _) (gd := _) (T := 43) (P := Tryd.prog) [(Value.int IntKind.i64 0), (Value.slice none 0 0)] ty_zr_43 rfl
  refine st_val hS rfl rfl (by decide) hr fun a hS => ?_
  have hM := hM.addNil 3
  have hM := hM.pick [1, 0, 2, 3, 4, 5, 6] (by decide) rfl
  obtain ⟨w, hr, hM⟩ := hM.st_agg (us := [(Value.int IntKind.i64 r10.1), v11]) (ρ := a.eval) (dst := none) (ty := _) (pos := _) (af := _) (gd := _) (x := .tmp 8) (y := .tmp 10) (hS.ev rfl) (hS.ev rfl) ty_sz_43 (all1_cons rfl (all1_cons (rd_one (rd_of_ow (hM.get 2 rfl))) all1_nil)) rfl
  refine st_unit hS rfl rfl hr ?_
  refine wpList_nil ?_
  refine hK6 _ _ ?_
  refine wp_seq_k fun K13 hK13 => ?_
  refine wp_seq_k fun K21 hK21 => ?_
  have hJ1 : ∀ (p24 : Bool) (a : Act) (w : World), Sl 48 [(1, (Value.int IntKind.i64 p1_v)), (2, (Value.int IntKind.i64 p2_w)), (6, (fdp b5 0)), (8, (fdp b12 0)), (21, (Value.bool p24))] a → Mem Nob w0 w [(true, bx b5 43 [(Value.int IntKind.i64 0), (Value.slice none 0 0)]), (true, ow 3 (Value.slice none 0 0) (List.map (Value.int IntKind.i64) ([] : List (Int)))), (true, bx b12 43 [(Value.int IntKind.i64 r10.1), v11]), (true, ow 3 v11 (List.map (Value.int IntKind.i64) r10.2))] → S_spec_AddEdge_j1 F p1_v p2_w r10 p24 = some r → K21 a w := by
    intro p24 a w hS hM hF
    unfold S_spec_AddEdge_j1 at hF
    refine hK21 _ _ ?_
    rcases ite_some hF with ⟨hc, hF⟩ | ⟨hc, hF⟩
    · refine cond_t hS rfl hc ?_
      refine wp_seq_k fun K25 hK25 => ?_
      refine wp_region_lit ?_
      refine st_val hS rfl rfl (by decide) (rv_load_agg (hS.ev rfl) ty_ag_43 (hM.get 2 rfl) ty_sz_43) fun a hS => ?_
      obtain ⟨w, hr, hM⟩ := hM.st_agg (us := [(Value.int IntKind.i64 r10.1), v11]) (ρ := a.eval) (dst := none) (ty := _) (pos := _) (af := _) (gd := _) (x := .tmp 6) (y := .tmp 22) (hS.ev rfl) (hS.ev rfl) ty_sz_43 (all1_cons rfl (all1_cons (rd_one (rd_of_ow (hM.get 3 rfl))) all1_nil)) rfl
      refine st_unit hS rfl rfl hr ?_
      refine st_val hS rfl rfl (by decide) (rv_assign (hS.ev rfl)) fun a hS => ?_
      refine wpList_nil ?_
      refine hK25 _ _ ?_
      refine wp_ret ?_
      cases hF
      exact hQr _ _ (r_cc hS rfl ⟨_, rfl, run_loadAgg ty_ag_43 (hM.get 0 rfl) ty_sz_43⟩ rfl ⟨v11, rfl, hM.pick [3] (by decide) rfl⟩)
    · refine cond_f hS rfl hc ?_
      refine wp_skip ?_
      refine hK13 _ _ ?_
      refine wp_seq_k fun K26 hK26 => ?_
      have hM := hM.pick [3, 0, 1, 2] (by decide) rfl
      refine an_start (feet [(true, ow 3 v11 (List.map (Value.int IntKind.i64) r10.2))]) ty_mixed fun w hf => ?_
      have hM := hM.fra hf
      have hB := hM
      have hM := hB.reg1 rfl
      refine an_take hS (i := 0) rfl (by kernel_rfl) (by kernel_rfl) (by kernel_rfl) rfl (by decide) (fun c a a' w hd h => hQp c a a' w hd h) rfl (fun w' hC' => (rv_fieldAddr ty_fd_43_1 (hS.ev rfl))) hM.fr fun a hS => ?_
      refine an_take hS (i := 1) rfl (by kernel_rfl) (by kernel_rfl) (by kernel_rfl) rfl (by decide) (fun c a a' w hd h => hQp c a a' w hd h) rfl (fun w' hC' => (rv_load_bx (hS.ev rfl) ty_ag_38 (hB.getF rfl 2 rfl hC') rfl)) hM.fr fun a hS => ?_
      refine an_take hS (i := 2) rfl (by kernel_rfl) (by kernel_rfl) (by kernel_rfl) rfl (by decide) (fun c a a' w hd h => hQp c a a' w hd h) rfl (fun w' hC' => (rv_move (hS.ev rfl))) hM.fr fun a hS => ?_
      refine an_take hS (i := 3) rfl (by kernel_rfl) (by kernel_rfl) (by kernel_rfl) rfl (by decide) (fun c a a' w hd h => hQp c a a' w hd h) rfl (fun w' hC' => (rv_fieldAddr ty_fd_43_1 (hS.ev rfl))) hM.fr fun a hS => ?_
      refine an_take hS (i := 4) rfl (by kernel_rfl) (by kernel_rfl) (by kernel_rfl) rfl (by decide) (fun c a a' w hd h => hQp c a a' w hd h) rfl (fun w' hC' => (rv_load_bx (hS.ev rfl) ty_ag_38 (hB.getF rfl 2 rfl hC') rfl)) hM.fr fun a hS => ?_
      refine an_take hS (i := 5) rfl (by kernel_rfl) (by kernel_rfl) (by kernel_rfl) rfl (by decide) (fun c a a' w hd h => hQp c a a' w hd h) rfl (fun w' hC' => (rv_move (hS.ev rfl))) hM.fr fun a hS => ?_
      obtain ⟨x29, hx, hF⟩ := bind_some hF
      obtain ⟨hi0, hi1, hex29⟩ := idxL_some hx
      refine an_take hS (i := 6) rfl (by kernel_rfl) (by kernel_rfl) (by kernel_rfl) rfl (by decide) (fun c a a' w hd h => hQp c a a' w hd h) rfl (fun w' hC' => (rv_indexAddr Tryd.underlying38 ty_el_3 (hS.ev rfl) (hS.ev rfl) (rd_of_ow (hM.get 0 rfl)) hi0 (map_len hi1))) hM.fr fun a hS => ?_
      refine an_take hS (i := 8) rfl (by kernel_rfl) (by kernel_rfl) (by kernel_rfl) rfl (by decide) (fun c a a' w hd h => hQp c a a' w hd h) rfl (fun w' hC' => (rv_move (hS.ev rfl))) hM.fr fun a hS => ?_
      obtain ⟨_, hx, hF⟩ := bind_some hF
      have hi0 := nnO_some hx
      refine an_take hS (i := 9) rfl (by kernel_rfl) (by kernel_rfl) (by kernel_rfl) rfl (by decide) (fun c a a' w hd h => hQp c a a' w hd h) rfl (fun w' hC' => (rv_shl (hS.ev rfl) (hS.ev rfl) hi0)) hM.fr fun a hS => ?_
      refine an_one hS (i := 7) rfl (by kernel_rfl) rfl ?_
      refine wp_val hS rfl (by decide) (rv_load_el (hS.ev rfl) ty_ag_3 (rd_of_ow (hM.get 0 rfl)) (mget hex29)) fun a hS => ⟨hM.fr, ?_⟩
      refine an_take hS (i := 10) rfl (by kernel_rfl) (by kernel_rfl) (by kernel_rfl) rfl (by decide) (fun c a a' w hd h => hQp c a a' w hd h) rfl (fun w' hC' => (rv_add (hS.ev rfl) (hS.ev rfl))) hM.fr fun a hS => ?_
      obtain ⟨x30, hx, hF⟩ := bind_some hF
      obtain ⟨hi0, hi1, hex30⟩ := idxL_some hx
      refine an_take hS (i := 11) rfl (by kernel_rfl) (by kernel_rfl) (by kernel_rfl) rfl (by decide) (fun c a a' w hd h => hQp c a a' w hd h) rfl (fun w' hC' => (rv_indexAddr Tryd.underlying38 ty_el_3 (hS.ev rfl) (hS.ev rfl) (rd_of_ow (hM.get 0 rfl)) hi0 (map_len hi1))) hM.fr fun a hS => ?_
      obtain ⟨w, hr, hM⟩ := hM.st_el (f := (Value.int IntKind.i64)) (n := p1_v.toNat) (c := (IntKind.i64.wrap (x29 + (shL 1 p2_w)))) (ρ := a.eval) (dst := none) (ty := _) (pos := _) (af := _) (gd := _) (x := .tmp 34) (y := .tmp 33) i64_one (hS.ev rfl) (hS.ev rfl) ty_sz_3 (List.getElem?_eq_some_iff.1 hex30).1
      refine an_one hS (i := 12) rfl (by kernel_rfl) rfl ?_
      refine wp_unit hS rfl hr ⟨hM.fr, ?_⟩
      refine an_done (by kernel_rfl) ?_
      have hN := hM.pick [0] (by decide) rfl
      have hM := Mem.callo (A := [(true, ow 3 v11 (List.map (Value.int IntKind.i64) r10.2))]) (B := [(true, bx b5 43 [(Value.int IntKind.i64 0), (Value.slice none 0 0)]), (true, ow 3 (Value.slice none 0 0) (List.map (Value.int IntKind.i64) ([] : List (Int)))), (true, bx b12 43 [(Value.int IntKind.i64 r10.1), v11])]) hB rfl (hN.memS fun _ h => h) rfl
      refine hK26 _ _ ?_
      refine wp_seq_k fun K31 hK31 => ?_
      refine an_start (feet [(true, ow 3 v11 (List.map (Value.int IntKind.i64) (r10.2.set (p1_v.toNat) (IntKind.i64.wrap (x29 + (shL 1 p2_w))))))]) ty_mixed fun w hf => ?_
      have hM := hM.fra hf
      have hB := hM
      have hM := hB.reg1 rfl
      refine an_take hS (i := 0) rfl (by kernel_rfl) (by kernel_rfl) (by kernel_rfl) rfl (by decide) (fun c a a' w hd h => hQp c a a' w hd h) rfl (fun w' hC' => (rv_fieldAddr ty_fd_43_1 (hS.ev rfl))) hM.fr fun a hS => ?_
      refine an_take hS (i := 1) rfl (by kernel_rfl) (by kernel_rfl) (by kernel_rfl) rfl (by decide) (fun c a a' w hd h => hQp c a a' w hd h) rfl (fun w' hC' => (rv_load_bx (hS.ev rfl) ty_ag_38 (hB.getF rfl 2 rfl hC') rfl)) hM.fr fun a hS => ?_
      refine an_take hS (i := 2) rfl (by kernel_rfl) (by kernel_rfl) (by kernel_rfl) rfl (by decide) (fun c a a' w hd h => hQp c a a' w hd h) rfl (fun w' hC' => (rv_move (hS.ev rfl))) hM.fr fun a hS => ?_
      refine an_take hS (i := 3) rfl (by kernel_rfl) (by kernel_rfl) (by kernel_rfl) rfl (by decide) (fun c a a' w hd h => hQp c a a' w hd h) rfl (fun w' hC' => (rv_fieldAddr ty_fd_43_1 (hS.ev rfl))) hM.fr fun a hS => ?_
      refine an_take hS (i := 4) rfl (by kernel_rfl) (by kernel_rfl) (by kernel_rfl) rfl (by decide) (fun c a a' w hd h => hQp c a a' w hd h) rfl (fun w' hC' => (rv_load_bx (hS.ev rfl) ty_ag_38 (hB.getF rfl 2 rfl hC') rfl)) hM.fr fun a hS => ?_
      refine an_take hS (i := 5) rfl (by kernel_rfl) (by kernel_rfl) (by kernel_rfl) rfl (by decide) (fun c a a' w hd h => hQp c a a' w hd h) rfl (fun w' hC' => (rv_move (hS.ev rfl))) hM.fr fun a hS => ?_
      obtain ⟨x34, hx, hF⟩ := bind_some hF
      obtain ⟨hi0, hi1, hex34⟩ := idxL_some hx
      refine an_take hS (i := 6) rfl (by kernel_rfl) (by kernel_rfl) (by kernel_rfl) rfl (by decide) (fun c a a' w hd h => hQp c a a' w hd h) rfl (fun w' hC' => (rv_indexAddr Tryd.underlying38 ty_el_3 (hS.ev rfl) (hS.ev rfl) (rd_of_ow (hM.get 0 rfl)) hi0 (map_len hi1))) hM.fr fun a hS => ?_
      refine an_take hS (i := 8) rfl (by kernel_rfl) (by kernel_rfl) (by kernel_rfl) rfl (by decide) (fun c a a' w hd h => hQp c a a' w hd h) rfl (fun w' hC' => (rv_move (hS.ev rfl))) hM.fr fun a hS => ?_
      obtain ⟨_, hx, hF⟩ := bind_some hF
      have hi0 := nnO_some hx
      refine an_take hS (i := 9) rfl (by kernel_rfl) (by kernel_rfl) (by kernel_rfl) rfl (by decide) (fun c a a' w hd h => hQp c a a' w hd h) rfl (fun w' hC' => (rv_shl (hS.ev rfl) (hS.ev rfl) hi0)) hM.fr fun a hS => ?_
      refine an_one hS (i := 7) rfl (by kernel_rfl) rfl ?_
      refine wp_val hS rfl (by decide) (rv_load_el (hS.ev rfl) ty_ag_3 (rd_of_ow (hM.get 0 rfl)) (mget hex34)) fun a hS => ⟨hM.fr, ?_⟩
      refine an_take hS (i := 10) rfl (by kernel_rfl) (by kernel_rfl) (by kernel_rfl) rfl (by decide) (fun c a a' w hd h => hQp c a a' w hd h) rfl (fun w' hC' => (rv_add (hS.ev rfl) (hS.ev rfl))) hM.fr fun a hS => ?_
      obtain ⟨x35, hx, hF⟩ := bind_some hF
      obtain ⟨hi0, hi1, hex35⟩ := idxL_some hx
      refine an_take hS (i := 11) rfl (by kernel_rfl) (by kernel_rfl) (by kernel_rfl) rfl (by decide) (fun c a a' w hd h => hQp c a a' w hd h) rfl (fun w' hC' => (rv_indexAddr Tryd.underlying38 ty_el_3 (hS.ev rfl) (hS.ev rfl) (rd_of_ow (hM.get 0 rfl)) hi0 (map_len hi1))) hM.fr fun a hS => ?_
      obtain ⟨w, hr, hM⟩ := hM.st_el (f := (Value.int IntKind.i64)) (n := p2_w.toNat) (c := (IntKind.i64.wrap (x34 + (shL 1 p1_v)))) (ρ := a.eval) (dst := none) (ty := _) (pos := _) (af := _) (gd := _) (x := .tmp 46) (y := .tmp 45) i64_one (hS.ev rfl) (hS.ev rfl) ty_sz_3 (List.getElem?_eq_some_iff.1 hex35).1
      refine an_one hS (i := 12) rfl (by kernel_rfl) rfl ?_
      refine wp_unit hS rfl hr ⟨hM.fr, ?_⟩
      refine an_done (by kernel_rfl) ?_
      have hN := hM.pick [0] (by decide) rfl
      have hM := Mem.callo (A := [(true, ow 3 v11 (List.map (Value.int IntKind.i64) (r10.2.set (p1_v.toNat) (IntKind.i64.wrap (x29 + (shL 1 p2_w))))))]) (B := [(true, bx b5 43 [(Value.int IntKind.i64 0), (Value.slice none 0 0)]), (true, ow 3 (Value.slice none 0 0) (List.map (Value.int IntKind.i64) ([] : List (Int)))), (true, bx b12 43 [(Value.int IntKind.i64 r10.1), v11])]) hB rfl (hN.memS fun _ h => h) rfl
      refine hK31 _ _ ?_
      refine wp_seq_k fun K36 hK36 => ?_
      refine wp_region_lit ?_
      refine st_val hS rfl rfl (by decide) (rv_load_agg (hS.ev rfl) ty_ag_43 (hM.get 3 rfl) ty_sz_43) fun a hS => ?_
      have hM := hM.pick [1, 0, 2, 3] (by decide) rfl
      obtain ⟨w, hr, hM⟩ := hM.st_agg (us := [(Value.int IntKind.i64 r10.1), v11]) (ρ := a.eval) (dst := none) (ty := _) (pos := _) (af := _) (gd := _) (x := .tmp 6) (y := .tmp 47) (hS.ev rfl) (hS.ev rfl) ty_sz_43 (all1_cons rfl (all1_cons (rd_one (rd_of_ow (hM.get 1 rfl))) all1_nil)) rfl
      refine st_unit hS rfl rfl hr ?_
      refine st_val hS rfl rfl (by decide) (rv_assign (hS.ev rfl)) fun a hS => ?_
      refine wpList_nil ?_
      refine hK36 _ _ ?_
      refine wp_ret ?_
      cases hF
      exact hQr _ _ (r_cc hS rfl ⟨_, rfl, run_loadAgg ty_ag_43 (hM.get 0 rfl) ty_sz_43⟩ rfl ⟨v11, rfl, hM.pick [1] (by decide) rfl⟩)
  refine wp_region_lit ?_
  refine st_val hS rfl rfl (by decide) (rv_load_agg (hS.ev rfl) ty_ag_43 (hM.get 5 rfl) ty_sz_43) fun a hS => ?_
  refine st_val hS rfl rfl (by decide) (rv_move (hS.ev rfl)) fun a hS => ?_
  refine st_val hS rfl rfl (by decide) (rv_move (hS.ev rfl)) fun a hS => ?_
  obtain ⟨r37, hr, hF⟩ := bind_some hF
  refine st_wp hS rfl (wp_call hS rfl rfl (by decide) fn_ok_67 rfl (c_spec_l2Pair F p0_g_Size p0_g_Rows p1_v p2_w p0_g_Rowsv hr _ (hM.get 6 rfl)) fun v w a hK hS => ?_)
  obtain ⟨rfl, hN⟩ := hK
  have hM := hM.fra hN.fr
  refine st_val hS rfl rfl (by decide) (rv_not (hS.ev rfl)) fun a hS => ?_
  refine st_val hS rfl rfl (by decide) (rv_move (hS.ev rfl)) fun a hS => ?_
  rcases ite_some hF with ⟨hc, hF⟩ | ⟨hc, hF⟩
  · have hS := hS.setb (t := 16) rfl hc
    refine st_skip hS rfl rfl (by decide) fun a hS => ?_
    refine st_skip hS rfl rfl (by decide) fun a hS => ?_
    refine st_skip hS rfl rfl (by decide) fun a hS => ?_
    refine st_skip hS rfl rfl (by decide) fun a hS => ?_
    refine st_val hS rfl rfl (by decide) (rv_pick_t (hS.ev rfl) (hS.ev rfl)) fun a hS => ?_
    refine wpList_nil ?_
    exact hJ1 true _ _ (hS.sub (sub_cons rfl (sub_cons rfl (sub_cons rfl (sub_cons rfl (sub_cons rfl sub_nil)))))) (hM.pick [4, 3, 0, 2] (by decide) rfl) hF
  · have hS := hS.setb (t := 16) rfl hc
    refine st_val hS rfl rfl (by decide) (rv_load_agg (hS.ev rfl) ty_ag_43 (hM.get 5 rfl) ty_sz_43) fun a hS => ?_
    refine st_val hS rfl rfl (by decide) (rv_move (hS.ev rfl)) fun a hS => ?_
    refine st_val hS rfl rfl (by decide) (rv_move (hS.ev rfl)) fun a hS => ?_
    obtain ⟨r38, hr, hF⟩ := bind_some hF
    refine st_wp hS rfl (wp_call hS rfl rfl (by decide) fn_ok_65 rfl (c_spec_l2Edge F p0_g_Size p0_g_Rows p1_v p2_w p0_g_Rowsv hr _ (hM.get 6 rfl)) fun v w a hK hS => ?_)
    obtain ⟨rfl, hN⟩ := hK
    have hM := hM.fra hN.fr
    refine st_val hS rfl rfl (by decide) (rv_pick_f (hS.ev rfl) (hS.ev rfl)) fun a hS => ?_
    refine wpList_nil ?_
    exact hJ1 r38 _ _ (hS.sub (sub_cons rfl (sub_cons rfl (sub_cons rfl (sub_cons rfl (sub_cons rfl sub_nil)))))) (hM.pick [4, 3, 0, 2] (by decide) rfl) hF


theorem c_spec_ParseGraph (F : Nat) (p0_s : List UInt8) {r : Int × (List (Int)) × Bool} (hF : S_spec_ParseGraph F p0_s = some r) (w0 : World) :
    Calls Tryd.prog 31 [(Value.string (bs p0_s))].toArray w0 (retPost fun v w' => ∃ v696, v = (Value.tuple #[(Value.agg #[(Value.int IntKind.i64 r.1), v696]), (Value.bool r.2.2)]) ∧ Mem Nob w0 w' [(true, ow 3 v696 (List.map (Value.int IntKind.i64) r.2.1))]) := by
  have hM : Mem Nob w0 w0 [] := (Mem.nil w0)
  refine enter2 Tryd.func31 rfl rfl rfl fun Q a hQr hQn hQp hS => ?_
  have hS : Sl 100 [(0, (Value.string (bs p0_s)))] a := hS
  unfold S_spec_ParseGraph at hF
  refine wp_seq_k fun K1 hK1 => ?_
  refine wp_region_lit ?_
  obtain ⟨b3, w, hr, hM⟩ := hM.allocE (ρ := a.eval) (dst := some 2) (ty := _) (pos := _) (af := _) (gd := _) (T := 43) (P := Tryd.prog) [(Value.int IntKind.i64 0), (Value.slice none 0 0)] ty_zr_43 rfl
  refine st_val hS rfl rfl (by decide) hr fun a hS => ?_
  have hM := hM.addNil 3
  refine st_val hS rfl rfl (by decide) (rv_assign (hS.ev rfl)) fun a hS => ?_
  refine wpList_nil ?_
  refine hK1 _ _ ?_
  refine wp_seq_k fun K4 hK4 => ?_
  refine wp_region_lit ?_
  refine st_val hS rfl rfl (by decide) (rv_move (hS.ev rfl)) fun a hS => ?_
  obtain ⟨r7, hr, hF⟩ := bind_some hF
  refine st_wp hS rfl (wp_call hS rfl rfl (by decide) fn_ok_55 rfl (c_spec_l2Cut F p0_s 32 hr _) fun v8 w a hK hS => ?_)
  have hN := hK
  have hM := hM.add hN rfl
  refine st_val hS rfl rfl (by decide) (rv_assign (hS.ev rfl)) fun a hS => ?_
  refine wpList_nil ?_
  refine hK4 _ _ ?_
  refine wp_seq_k fun K9 hK9 => ?_
  refine wp_seq_k fun K23 hK23 => ?_
  have hJ1 : ∀ (p29 : Bool) (a : Act) (w : World), Sl 100 [(0, (Value.string (bs p0_s))), (2, (fdp b3 0)), (4, v8), (29, (Value.bool p29))] a → Mem Nob w0 w [(true, bx b3 43 [(Value.int IntKind.i64 0), (Value.slice none 0 0)]), (true, ow 3 (Value.slice none 0 0) (List.map (Value.int IntKind.i64) ([] : List (Int)))), (true, ow 9 v8 (List.map (fun s => Value.string (bs s)) r7))] → S_spec_ParseGraph_j1 F p0_s r7 p29 = some r → K23 a w := by
    intro p29 a w hS hM hF
    unfold S_spec_ParseGraph_j1 at hF
    refine hK23 _ _ ?_
    rcases ite_some hF with ⟨hc, hF⟩ | ⟨hc, hF⟩
    · refine cond_t hS rfl hc ?_
      refine wp_seq_k fun K30 hK30 => ?_
      refine wp_region_lit ?_
      refine st_val hS rfl rfl (by decide) (rv_build hS ty_st_43 rfl (by simp) ones_nil) fun a hS => ?_
      obtain ⟨w, hr, hM⟩ := hM.st_agg (us := [(Value.int IntKind.i64 0), (Value.slice none 0 0)]) (ρ := a.eval) (dst := none) (ty := _) (pos := _) (af := _) (gd := _) (x := .tmp 2) (y := .tmp 30) (hS.ev rfl) (hS.ev rfl) ty_sz_43 (all1_cons rfl (all1_cons rfl all1_nil)) rfl
      refine st_unit hS rfl rfl hr ?_
      have hM := hM.addNil 3
      refine st_val hS rfl rfl (by decide) (rv_assign (hS.ev rfl)) fun a hS => ?_
      refine wpList_nil ?_
      refine hK30 _ _ ?_
      refine wp_ret ?_
      cases hF
      exact hQr _ _ (r_cc hS rfl ⟨_, rfl, run_loadAgg ty_ag_43 (hM.get 1 rfl) ty_sz_43⟩ rfl ⟨(Value.slice none 0 0), rfl, hM.pick [0] (by decide) rfl⟩)
    · refine cond_f hS rfl hc ?_
      refine wp_skip ?_
      refine hK9 _ _ ?_
      refine wp_seq_k fun K31 hK31 => ?_
      refine wp_region_lit ?_
      refine st_val hS rfl rfl (by decide) (rv_move (hS.ev rfl)) fun a hS => ?_
      obtain ⟨x35, hx, hF⟩ := bind_some hF
      obtain ⟨hi0, hi1, hex35⟩ := idxL_some hx
      refine st_val hS rfl rfl (by decide) (rv_indexAddr Tryd.underlying71 ty_el_9 (hS.ev rfl) (hS.ev rfl) (rd_of_ow (hM.get 2 rfl)) hi0 (map_len hi1)) fun a hS => ?_
      refine st_val hS rfl rfl (by decide) (rv_load_el (hS.ev rfl) ty_ag_9 (rd_of_ow (hM.get 2 rfl)) (mget hex35)) fun a hS => ?_
      obtain ⟨x36, hx, hF⟩ := bind_some hF
      obtain ⟨hi0, hi1, hi2⟩ := idxL_some hx
      refine st_val hS rfl rfl (by decide) (rv_index Tryd.underlying9 (hS.ev rfl) (hS.ev rfl) hi0 hi2) fun a hS => ?_
      refine st_val hS rfl rfl (by decide) (rv_sub (hS.ev rfl) (hS.ev rfl)) fun a hS => ?_
      refine st_val hS rfl rfl (by decide) (rv_conv Tryd.underlying5 Tryd.underlying3 (hS.ev rfl)) fun a hS => ?_
      refine st_val hS rfl rfl (by decide) (rv_build hS ty_st_43 rfl (by simp) (ones_cons (by rw [hS.ev (v := (Value.int IntKind.i64 (IntKind.i64.wrap (IntKind.u8.wrap ((x36.toNat : Int) - 48))))) rfl]; rfl) ones_nil)) fun a hS => ?_
      obtain ⟨b37, w, hr, hM⟩ := hM.allocE (ρ := a.eval) (dst := some 5) (ty := _) (pos := _) (af := _) (gd := _) (T := 43) (P := Tryd.prog) [(Value.int IntKind.i64 0), (Value.slice none 0 0)] ty_zr_43 rfl
      refine st_val hS rfl rfl (by decide) hr fun a hS => ?_
      have hM := hM.addNil 3
      have hM := hM.pick [1, 0, 2, 3, 4] (by decide) rfl
      obtain ⟨w, hr, hM⟩ := hM.st_agg (us := [(Value.int IntKind.i64 (IntKind.i64.wrap (IntKind.u8.wrap ((x36.toNat : Int) - 48)))), (Value.slice none 0 0)]) (ρ := a.eval) (dst := none) (ty := _) (pos := _) (af := _) (gd := _) (x := .tmp 5) (y := .tmp 37) (hS.ev rfl) (hS.ev rfl) ty_sz_43 (all1_cons rfl (all1_cons rfl all1_nil)) rfl
      refine st_unit hS rfl rfl hr ?_
      have hM := hM.addNil 3
      refine wpList_nil ?_
      refine hK31 _ _ ?_
      refine wp_seq_k fun K38 hK38 => ?_
      refine wp_region_lit ?_
      refine st_val hS rfl rfl (by decide) (rv_fieldAddr ty_fd_43_0 (hS.ev rfl)) fun a hS => ?_
      refine st_val hS rfl rfl (by decide) (rv_load_bx (hS.ev rfl) ty_ag_3 (hM.get 1 rfl) rfl) fun a hS => ?_
      obtain ⟨_, hx, hF⟩ := bind_some hF
      obtain ⟨v40, w, hr, hM⟩ := hM.makeE (f := (Value.int IntKind.i64)) (c := (0 : Int)) (ρ := a.eval) (dst := some 40) (ty := _) (pos := _) (af := _) (gd := _) (x := .tmp 39) (y := .tmp 39) Tryd.underlying38 ty_el_3 i64_one (by decide) (hS.ev rfl) (hS.ev rfl) (mkO_some hx)
      refine st_val hS rfl rfl (by decide) hr fun a hS => ?_
      refine st_val hS rfl rfl (by decide) (rv_fieldAddr ty_fd_43_1 (hS.ev rfl)) fun a hS => ?_
      have hM := hM.pick [2, 0, 1, 3, 4, 5, 6] (by decide) rfl
      obtain ⟨w, hr, hM⟩ := hM.st_bx1 (n := 1) (cs' := [(Value.int IntKind.i64 (IntKind.i64.wrap (IntKind.u8.wrap ((x36.toNat : Int) - 48)))), v40]) (ρ := a.eval) (dst := none) (ty := _) (pos := _) (af := _) (gd := _) (x := .tmp 41) (y := .tmp 40) (hS.ev rfl) (hS.ev rfl) ty_sz_38 (rd_one (rd_of_ow (hM.get 1 rfl))) rfl rfl
      refine st_unit hS rfl rfl hr ?_
      refine wpList_nil ?_
      refine hK38 _ _ ?_
      refine wp_seq_k fun K41 hK41 => ?_
      have hJ2 : ∀ (x360 : Int) (l362 : List Int) (v361 : Value) (a : Act) (w : World), Sl 100 [(0, (Value.string (bs p0_s))), (2, (fdp b3 0)), (5, (fdp b37 0))] a → Mem Nob w0 w [(true, bx b3 43 [(Value.int IntKind.i64 0), (Value.slice none 0 0)]), (true, ow 3 (Value.slice none 0 0) (List.map (Value.int IntKind.i64) ([] : List (Int)))), (true, bx b37 43 [(Value.int IntKind.i64 x360), v361]), (true, ow 3 v361 (List.map (Value.int IntKind.i64) l362))] → S_spec_ParseGraph_j2 F p0_s x360 l362 = some r → K41 a w := by
        intro x360 l362 v361 a w hS hM hF
        unfold S_spec_ParseGraph_j2 at hF
        refine hK41 _ _ ?_
        refine wp_seq_k fun K363 hK363 => ?_
        refine wp_seq_k fun K368 hK368 => ?_
        refine wp_region_lit ?_
        refine st_val hS rfl rfl (by decide) (rv_load_agg (hS.ev rfl) ty_ag_43 (hM.get 2 rfl) ty_sz_43) fun a hS => ?_
        obtain ⟨r370, hr, hF⟩ := bind_some hF
        refine st_wp hS rfl (wp_call hS rfl rfl (by decide) fn_ok_26 rfl (c_spec_FormatGraph F x360 l362 v361 hr _ (rd_of_ow (hM.get 3 rfl))) fun v w a hK hS => ?_)
        obtain ⟨rfl, hN⟩ := hK
        have hM := hM.fra hN.fr
        refine st_val hS rfl rfl (by decide) (rv_move (hS.ev rfl)) fun a hS => ?_
        refine st_val hS rfl rfl (by decide) (rv_str_neq (hS.ev rfl) (hS.ev rfl)) fun a hS => ?_
        refine wpList_nil ?_
        refine hK368 _ _ ?_
        rcases ite_some hF with ⟨hc, hF⟩ | ⟨hc, hF⟩
        · refine cond_t hS rfl hc ?_
          refine wp_seq_k fun K371 hK371 => ?_
          refine wp_region_lit ?_
          refine st_val hS rfl rfl (by decide) (rv_build hS ty_st_43 rfl (by simp) ones_nil) fun a hS => ?_
          obtain ⟨w, hr, hM⟩ := hM.st_agg (us := [(Value.int IntKind.i64 0), (Value.slice none 0 0)]) (ρ := a.eval) (dst := none) (ty := _) (pos := _) (af := _) (gd := _) (x := .tmp 2) (y := .tmp 98) (hS.ev rfl) (hS.ev rfl) ty_sz_43 (all1_cons rfl (all1_cons rfl all1_nil)) rfl
          refine st_unit hS rfl rfl hr ?_
          have hM := hM.addNil 3
          refine st_val hS rfl rfl (by decide) (rv_assign (hS.ev rfl)) fun a hS => ?_
          refine wpList_nil ?_
          refine hK371 _ _ ?_
          refine wp_ret ?_
          cases hF
          exact hQr _ _ (r_cc hS rfl ⟨_, rfl, run_loadAgg ty_ag_43 (hM.get 1 rfl) ty_sz_43⟩ rfl ⟨(Value.slice none 0 0), rfl, hM.pick [0] (by decide) rfl⟩)
        · refine cond_f hS rfl hc ?_
          refine wp_skip ?_
          refine hK363 _ _ ?_
          refine wp_seq_k fun K372 hK372 => ?_
          refine wp_region_lit ?_
          refine st_val hS rfl rfl (by decide) (rv_load_agg (hS.ev rfl) ty_ag_43 (hM.get 2 rfl) ty_sz_43) fun a hS => ?_
          obtain ⟨w, hr, hM⟩ := hM.st_agg (us := [(Value.int IntKind.i64 x360), v361]) (ρ := a.eval) (dst := none) (ty := _) (pos := _) (af := _) (gd := _) (x := .tmp 2) (y := .tmp 99) (hS.ev rfl) (hS.ev rfl) ty_sz_43 (all1_cons rfl (all1_cons (rd_one (rd_of_ow (hM.get 3 rfl))) all1_nil)) rfl
          refine st_unit hS rfl rfl hr ?_
          refine st_val hS rfl rfl (by decide) (rv_assign (hS.ev rfl)) fun a hS => ?_
          refine wpList_nil ?_
          refine hK372 _ _ ?_
          refine wp_ret ?_
          cases hF
          exact hQr _ _ (r_cc hS rfl ⟨_, rfl, run_loadAgg ty_ag_43 (hM.get 0 rfl) ty_sz_43⟩ rfl ⟨v361, rfl, hM.pick [3] (by decide) rfl⟩)
      refine wp_seq_k fun K373 hK373 => ?_
      refine wp_region_lit ?_
      refine st_val hS rfl rfl (by decide) (rv_assign (hS.ev rfl)) fun a hS => ?_
      refine wpList_nil ?_
      refine hK373 _ _ ?_
      refine wp_block ?_
      obtain ⟨lb3, hl3, hF3⟩ := bind_some hF
      refine wp_loop_sh (fun s => S_spec_ParseGraph_l3 F r7 s.1 s.2.1 s.2.2) (fun s a w => ∃ (v480 : Value), Sl 100 [(0, (Value.string (bs p0_s))), (2, (fdp b3 0)), (4, v8), (5, (fdp b37 0)), (6, (Value.int IntKind.i64 s.2.2))] a ∧ Mem Nob w0 w [(true, bx b3 43 [(Value.int IntKind.i64 0), (Value.slice none 0 0)]), (true, ow 3 (Value.slice none 0 0) (List.map (Value.int IntKind.i64) ([] : List (Int)))), (true, ow 9 v8 (List.map (fun s => Value.string (bs s)) r7)), (true, bx b37 43 [(Value.int IntKind.i64 s.1), v480]), (true, ow 3 v480 (List.map (Value.int IntKind.i64) s.2.1))]) hl3 ⟨v40, (hS.sub (sub_cons rfl (sub_cons rfl (sub_cons rfl (sub_cons rfl (sub_cons rfl sub_nil)))))), (hM.pick [4, 5, 6, 0, 1] (by decide) rfl)⟩ ?_
      rintro K3 ⟨x479, l481, x482⟩ a w res3 ⟨v480, hS, hM⟩ hF hN3 hX3
      have hF : S_spec_ParseGraph_l3 F r7 x479 l481 x482 = some res3 := hF
      have hS : Sl 100 [(0, (Value.string (bs p0_s))), (2, (fdp b3 0)), (4, v8), (5, (fdp b37 0)), (6, (Value.int IntKind.i64 x482))] a := hS
      have hM : Mem Nob w0 w [(true, bx b3 43 [(Value.int IntKind.i64 0), (Value.slice none 0 0)]), (true, ow 3 (Value.slice none 0 0) (List.map (Value.int IntKind.i64) ([] : List (Int)))), (true, ow 9 v8 (List.map (fun s => Value.string (bs s)) r7)), (true, bx b37 43 [(Value.int IntKind.i64 x479), v480]), (true, ow 3 v480 (List.map (Value.int IntKind.i64) l481))] := hM
      unfold S_spec_ParseGraph_l3 at hF
      refine wp_seq_k fun K587 hK587 => ?_
      refine wp_seq_k fun K589 hK589 => ?_
      refine wp_region_lit ?_
      refine st_val hS rfl rfl (by decide) (rv_move (hS.ev rfl)) fun a hS => ?_
      refine st_val hS rfl rfl (by decide) (rv_move (hS.ev rfl)) fun a hS => ?_
      refine st_val hS rfl rfl (by decide) (rv_len_rowM Tryd.underlying71 (hS.ev rfl) (rd_of_ow (hM.get 2 rfl))) fun a hS => ?_
      refine st_val hS rfl rfl (by decide) (rv_lss (hS.ev rfl) (hS.ev rfl)) fun a hS => ?_
      refine wpList_nil ?_
      refine hK589 _ _ ?_
      rcases ite_some hF with ⟨hc, hF⟩ | ⟨hc, hF⟩
      · refine cond_t hS rfl hc ?_
        refine wp_skip ?_
        refine hK587 _ _ ?_
        refine wp_seq_k fun K590 hK590 => ?_
        refine wp_block ?_
        refine wp_seq_k fun K641 hK641 => ?_
        refine wp_seq_k fun K655 hK655 => ?_
        have hJ4 : ∀ (p661 : Bool) (a : Act) (w : World), Sl 100 [(0, (Value.string (bs p0_s))), (2, (fdp b3 0)), (4, v8), (5, (fdp b37 0)), (6, (Value.int IntKind.i64 x482)), (69, (Value.bool p661))] a → Mem Nob w0 w [(true, bx b3 43 [(Value.int IntKind.i64 0), (Value.slice none 0 0)]), (true, ow 3 (Value.slice none 0 0) (List.map (Value.int IntKind.i64) ([] : List (Int)))), (true, ow 9 v8 (List.map (fun s => Value.string (bs s)) r7)), (true, bx b37 43 [(Value.int IntKind.i64 x479), v480]), (true, ow 3 v480 (List.map (Value.int IntKind.i64) l481))] → S_spec_ParseGraph_j4 F r7 x479 l481 x482 p661 = some res3 → K655 a w := by
          intro p661 a w hS hM hF
          unfold S_spec_ParseGraph_j4 at hF
          refine hK655 _ _ ?_
          rcases ite_some hF with ⟨hc, hF⟩ | ⟨hc, hF⟩
          · refine cond_t hS rfl hc ?_
            refine wp_seq_k fun K662 hK662 => ?_
            refine wp_region_lit ?_
            refine st_val hS rfl rfl (by decide) (rv_build hS ty_st_43 rfl (by simp) ones_nil) fun a hS => ?_
            obtain ⟨w, hr, hM⟩ := hM.st_agg (us := [(Value.int IntKind.i64 0), (Value.slice none 0 0)]) (ρ := a.eval) (dst := none) (ty := _) (pos := _) (af := _) (gd := _) (x := .tmp 2) (y := .tmp 70) (hS.ev rfl) (hS.ev rfl) ty_sz_43 (all1_cons rfl (all1_cons rfl all1_nil)) rfl
            refine st_unit hS rfl rfl hr ?_
            have hM := hM.addNil 3
            refine st_val hS rfl rfl (by decide) (rv_assign (hS.ev rfl)) fun a hS => ?_
            refine wpList_nil ?_
            refine hK662 _ _ ?_
            refine wp_ret ?_
            cases hF
            have e := hX3 _ rfl
            subst e
            have hF := hF3
            cases hF
            exact hQr _ _ (r_cc hS rfl ⟨_, rfl, run_loadAgg ty_ag_43 (hM.get 1 rfl) ty_sz_43⟩ rfl ⟨(Value.slice none 0 0), rfl, hM.pick [0] (by decide) rfl⟩)
          · refine cond_f hS rfl hc ?_
            refine wp_skip ?_
            refine hK641 _ _ ?_
            refine wp_seq_k fun K663 hK663 => ?_
            have hJ5 : ∀ (x671 : Int) (l673 : List Int) (p674 : Bool) (b670 : Nat) (v672 : Value) (a : Act) (w : World), Sl 100 [(0, (Value.string (bs p0_s))), (2, (fdp b3 0)), (4, v8), (5, (fdp b37 0)), (6, (Value.int IntKind.i64 x482)), (7, (fdp b670 0)), (8, (Value.bool p674))] a → Mem Nob w0 w [(true, bx b3 43 [(Value.int IntKind.i64 0), (Value.slice none 0 0)]), (true, ow 3 (Value.slice none 0 0) (List.map (Value.int IntKind.i64) ([] : List (Int)))), (true, ow 9 v8 (List.map (fun s => Value.string (bs s)) r7)), (true, bx b37 43 [(Value.int IntKind.i64 x479), v480]), (true, ow 3 v480 (List.map (Value.int IntKind.i64) l481)), (true, bx b670 43 [(Value.int IntKind.i64 x671), v672]), (true, ow 3 v672 (List.map (Value.int IntKind.i64) l673))] → S_spec_ParseGraph_j5 F x482 x671 l673 p674 = some res3 → K663 a w := by
              intro x671 l673 p674 b670 v672 a w hS hM hF
              unfold S_spec_ParseGraph_j5 at hF
              refine hK663 _ _ ?_
              refine wp_seq_k fun K675 hK675 => ?_
              refine wp_seq_k fun K678 hK678 => ?_
              refine wp_region_lit ?_
              refine st_val hS rfl rfl (by decide) (rv_move (hS.ev rfl)) fun a hS => ?_
              refine st_val hS rfl rfl (by decide) (rv_not (hS.ev rfl)) fun a hS => ?_
              refine wpList_nil ?_
              refine hK678 _ _ ?_
              rcases ite_some hF with ⟨hc, hF⟩ | ⟨hc, hF⟩
              · refine cond_t hS rfl hc ?_
                refine wp_seq_k fun K679 hK679 => ?_
                refine wp_region_lit ?_
                refine st_val hS rfl rfl (by decide) (rv_build hS ty_st_43 rfl (by simp) ones_nil) fun a hS => ?_
                obtain ⟨w, hr, hM⟩ := hM.st_agg (us := [(Value.int IntKind.i64 0), (Value.slice none 0 0)]) (ρ := a.eval) (dst := none) (ty := _) (pos := _) (af := _) (gd := _) (x := .tmp 2) (y := .tmp 92) (hS.ev rfl) (hS.ev rfl) ty_sz_43 (all1_cons rfl (all1_cons rfl all1_nil)) rfl
                refine st_unit hS rfl rfl hr ?_
                have hM := hM.addNil 3
                refine st_val hS rfl rfl (by decide) (rv_assign (hS.ev rfl)) fun a hS => ?_
                refine wpList_nil ?_
                refine hK679 _ _ ?_
                refine wp_ret ?_
                cases hF
                have e := hX3 _ rfl
                subst e
                have hF := hF3
                cases hF
                exact hQr _ _ (r_cc hS rfl ⟨_, rfl, run_loadAgg ty_ag_43 (hM.get 1 rfl) ty_sz_43⟩ rfl ⟨(Value.slice none 0 0), rfl, hM.pick [0] (by decide) rfl⟩)
              · refine cond_f hS rfl hc ?_
                refine wp_skip ?_
                refine hK675 _ _ ?_
                refine wp_region_lit ?_
                refine st_val hS rfl rfl (by decide) (rv_load_agg (hS.ev rfl) ty_ag_43 (hM.get 5 rfl) ty_sz_43) fun a hS => ?_
                have hM := hM.pick [3, 0, 1, 2, 4, 5, 6] (by decide) rfl
                obtain ⟨w, hr, hM⟩ := hM.st_agg (us := [(Value.int IntKind.i64 x671), v672]) (ρ := a.eval) (dst := none) (ty := _) (pos := _) (af := _) (gd := _) (x := .tmp 5) (y := .tmp 93) (hS.ev rfl) (hS.ev rfl) ty_sz_43 (all1_cons rfl (all1_cons (rd_one (rd_of_ow (hM.get 6 rfl))) all1_nil)) rfl
                refine st_unit hS rfl rfl hr ?_
                refine wpList_nil ?_
                refine hK590 _ _ ?_
                refine wp_region_lit ?_
                refine st_val hS rfl rfl (by decide) (rv_move (hS.ev rfl)) fun a hS => ?_
                refine st_val hS rfl rfl (by decide) (rv_add (hS.ev rfl) (hS.ev rfl)) fun a hS => ?_
                refine st_val hS rfl rfl (by decide) (rv_assign (hS.ev rfl)) fun a hS => ?_
                refine wpList_nil ?_
                cases hF
                exact hN3 _ _ _ rfl ⟨v672, (hS.sub (sub_cons rfl (sub_cons rfl (sub_cons rfl (sub_cons rfl (sub_cons rfl sub_nil)))))), (hM.pick [1, 2, 3, 0, 6] (by decide) rfl)⟩
            refine an_start Nob ty_mixed fun w hf => ?_
            have hM := hM.fra hf
            have hB := hM
            have hM := hB.reg0
            refine an_take hS (i := 0) rfl (by kernel_rfl) (by kernel_rfl) (by kernel_rfl) rfl (by decide) (fun c a a' w hd h => hQp c a a' w hd h) rfl (fun w' hC' => (rv_load_agg (hS.ev rfl) ty_ag_43 ((hB.fra hC').get 3 rfl) ty_sz_43)) hM.fr fun a hS => ?_
            refine an_take hS (i := 1) rfl (by kernel_rfl) (by kernel_rfl) (by kernel_rfl) rfl (by decide) (fun c a a' w hd h => hQp c a a' w hd h) rfl (fun w' hC' => (rv_move (hS.ev rfl))) hM.fr fun a hS => ?_
            refine an_take hS (i := 2) rfl (by kernel_rfl) (by kernel_rfl) (by kernel_rfl) rfl (by decide) (fun c a a' w hd h => hQp c a a' w hd h) rfl (fun w' hC' => (rv_move (hS.ev rfl))) hM.fr fun a hS => ?_
            obtain ⟨x680, hx, hF⟩ := bind_some hF
            obtain ⟨hi0, hi1, hex680⟩ := idxL_some hx
            refine an_take hS (i := 3) rfl (by kernel_rfl) (by kernel_rfl) (by kernel_rfl) rfl (by decide) (fun c a a' w hd h => hQp c a a' w hd h) rfl (fun w' hC' => (rv_indexAddr Tryd.underlying71 ty_el_9 (hS.ev rfl) (hS.ev rfl) (rd_of_ow (hM.get 2 rfl)) hi0 (map_len hi1))) hM.fr fun a hS => ?_
            refine an_take hS (i := 4) rfl (by kernel_rfl) (by kernel_rfl) (by kernel_rfl) rfl (by decide) (fun c a a' w hd h => hQp c a a' w hd h) rfl (fun w' hC' => (rv_load_el (hS.ev rfl) ty_ag_9 (rd_of_ow ((hB.fra hC').get 2 rfl)) (mget hex680))) hM.fr fun a hS => ?_
            obtain ⟨x681, hx, hF⟩ := bind_some hF
            obtain ⟨hi0, hi1, hi2⟩ := idxL_some hx
            refine an_take hS (i := 5) rfl (by kernel_rfl) (by kernel_rfl) (by kernel_rfl) rfl (by decide) (fun c a a' w hd h => hQp c a a' w hd h) rfl (fun w' hC' => (rv_index Tryd.underlying9 (hS.ev rfl) (hS.ev rfl) hi0 hi2)) hM.fr fun a hS => ?_
            refine an_take hS (i := 6) rfl (by kernel_rfl) (by kernel_rfl) (by kernel_rfl) rfl (by decide) (fun c a a' w hd h => hQp c a a' w hd h) rfl (fun w' hC' => (rv_sub (hS.ev rfl) (hS.ev rfl))) hM.fr fun a hS => ?_
            refine an_take hS (i := 7) rfl (by kernel_rfl) (by kernel_rfl) (by kernel_rfl) rfl (by decide) (fun c a a' w hd h => hQp c a a' w hd h) rfl (fun w' hC' => (rv_conv Tryd.underlying5 Tryd.underlying3 (hS.ev rfl))) hM.fr fun a hS => ?_
            refine an_take hS (i := 8) rfl (by kernel_rfl) (by kernel_rfl) (by kernel_rfl) rfl (by decide) (fun c a a' w hd h => hQp c a a' w hd h) rfl (fun w' hC' => (rv_move (hS.ev rfl))) hM.fr fun a hS => ?_
            refine an_take hS (i := 9) rfl (by kernel_rfl) (by kernel_rfl) (by kernel_rfl) rfl (by decide) (fun c a a' w hd h => hQp c a a' w hd h) rfl (fun w' hC' => (rv_move (hS.ev rfl))) hM.fr fun a hS => ?_
            obtain ⟨x682, hx, hF⟩ := bind_some hF
            obtain ⟨hi0, hi1, hex682⟩ := idxL_some hx
            refine an_take hS (i := 10) rfl (by kernel_rfl) (by kernel_rfl) (by kernel_rfl) rfl (by decide) (fun c a a' w hd h => hQp c a a' w hd h) rfl (fun w' hC' => (rv_indexAddr Tryd.underlying71 ty_el_9 (hS.ev rfl) (hS.ev rfl) (rd_of_ow (hM.get 2 rfl)) hi0 (map_len hi1))) hM.fr fun a hS => ?_
            refine an_take hS (i := 11) rfl (by kernel_rfl) (by kernel_rfl) (by kernel_rfl) rfl (by decide) (fun c a a' w hd h => hQp c a a' w hd h) rfl (fun w' hC' => (rv_load_el (hS.ev rfl) ty_ag_9 (rd_of_ow ((hB.fra hC').get 2 rfl)) (mget hex682))) hM.fr fun a hS => ?_
            obtain ⟨x683, hx, hF⟩ := bind_some hF
            obtain ⟨hi0, hi1, hi2⟩ := idxL_some hx
            refine an_take hS (i := 12) rfl (by kernel_rfl) (by kernel_rfl) (by kernel_rfl) rfl (by decide) (fun c a a' w hd h => hQp c a a' w hd h) rfl (fun w' hC' => (rv_index Tryd.underlying9 (hS.ev rfl) (hS.ev rfl) hi0 hi2)) hM.fr fun a hS => ?_
            refine an_take hS (i := 13) rfl (by kernel_rfl) (by kernel_rfl) (by kernel_rfl) rfl (by decide) (fun c a a' w hd h => hQp c a a' w hd h) rfl (fun w' hC' => (rv_sub (hS.ev rfl) (hS.ev rfl))) hM.fr fun a hS => ?_
            refine an_take hS (i := 14) rfl (by kernel_rfl) (by kernel_rfl) (by kernel_rfl) rfl (by decide) (fun c a a' w hd h => hQp c a a' w hd h) rfl (fun w' hC' => (rv_conv Tryd.underlying5 Tryd.underlying3 (hS.ev rfl))) hM.fr fun a hS => ?_
            refine an_two hS (i := 15) (j := 19) rfl rfl (by kernel_rfl) rfl rfl ?_ ?_
            · obtain ⟨r87s, hr, hF⟩ := bind_some hF
              refine wp_call hS rfl rfl (by decide) fn_ok_56 rfl (c_spec_AddEdge F x479 l481 (IntKind.i64.wrap (IntKind.u8.wrap ((x681.toNat : Int) - 48))) (IntKind.i64.wrap (IntKind.u8.wrap ((x683.toNat : Int) - 48))) v480 hr _ (rd_of_ow (hM.get 4 rfl))) fun v w a hK hS => ?_
              obtain ⟨v684, rfl, hN⟩ := hK
              have hM := hM.add hN rfl
              refine ⟨hM.fr, ?_⟩
              refine an_take hS (i := 16) rfl (by kernel_rfl) (by kernel_rfl) (by kernel_rfl) rfl (by decide) (fun c a a' w hd h => hQp c a a' w hd h) rfl (fun w' hC' => (rv_move (hS.ev rfl))) hM.fr fun a hS => ?_
              refine an_take hS (i := 17) rfl (by kernel_rfl) (by kernel_rfl) (by kernel_rfl) rfl (by decide) (fun c a a' w hd h => hQp c a a' w hd h) rfl (fun w' hC' => (rv_extract (hS.ev rfl) rfl)) hM.fr fun a hS => ?_
              refine an_take hS (i := 18) rfl (by kernel_rfl) (by kernel_rfl) (by kernel_rfl) rfl (by decide) (fun c a a' w hd h => hQp c a a' w hd h) rfl (fun w' hC' => (rv_extract (hS.ev rfl) rfl)) hM.fr fun a hS => ?_
              obtain ⟨b685, w, hr, hM⟩ := hM.allocE (ρ := a.eval) (dst := some 7) (ty := _) (pos := _) (af := _) (gd := _) (T := 43) (P := Tryd.prog) [(Value.int IntKind.i64 0), (Value.slice none 0 0)] ty_zr_43 rfl
              refine an_one hS (i := 19) rfl (by kernel_rfl) rfl ?_
              refine wp_val hS rfl (by decide) hr fun a hS => ⟨hM.fr, ?_⟩
              have hM := hM.addNil 3
              have hM := hM.pick [1, 0, 2, 3, 4, 5, 6, 7] (by decide) rfl
              obtain ⟨w, hr, hM⟩ := hM.st_agg (us := [(Value.int IntKind.i64 r87s.1), v684]) (ρ := a.eval) (dst := none) (ty := _) (pos := _) (af := _) (gd := _) (x := .tmp 7) (y := .tmp 88) (hS.ev rfl) (hS.ev rfl) ty_sz_43 (all1_cons rfl (all1_cons (rd_one (rd_of_ow (hM.get 2 rfl))) all1_nil)) rfl
              refine an_one hS (i := 20) rfl (by kernel_rfl) rfl ?_
              refine wp_unit hS rfl hr ⟨hM.fr, ?_⟩
              refine an_take hS (i := 21) rfl (by kernel_rfl) (by kernel_rfl) (by kernel_rfl) rfl (by decide) (fun c a a' w hd h => hQp c a a' w hd h) rfl (fun w' hC' => (rv_assign (hS.ev rfl))) hM.fr fun a hS => ?_
              refine an_done (by kernel_rfl) ?_
              have hN := hM.pick [0, 1, 2] (by decide) rfl
              have hM := Mem.callo (A := []) (B := [(true, bx b3 43 [(Value.int IntKind.i64 0), (Value.slice none 0 0)]), (true, ow 3 (Value.slice none 0 0) (List.map (Value.int IntKind.i64) ([] : List (Int)))), (true, ow 9 v8 (List.map (fun s => Value.string (bs s)) r7)), (true, bx b37 43 [(Value.int IntKind.i64 x479), v480]), (true, ow 3 v480 (List.map (Value.int IntKind.i64) l481))]) hB rfl (hN.memS fun _ h => h.elim) rfl
              exact hJ5 r87s.1 r87s.2.1 r87s.2.2 b685 v684 _ _ (hS.sub (sub_cons rfl (sub_cons rfl (sub_cons rfl (sub_cons rfl (sub_cons rfl (sub_cons rfl (sub_cons rfl sub_nil)))))))) (hM.pick [3, 4, 5, 6, 7, 0, 2] (by decide) rfl) hF
            · obtain ⟨b684, w, hr, hM⟩ := hM.allocE (ρ := a.eval) (dst := some 7) (ty := _) (pos := _) (af := _) (gd := _) (T := 43) (P := Tryd.prog) [(Value.int IntKind.i64 0), (Value.slice none 0 0)] ty_zr_43 rfl
              refine wp_val hS rfl (by decide) hr fun a hS => ⟨hM.fr, ?_⟩
              have hM := hM.addNil 3
              obtain ⟨r87s, hr, hF⟩ := bind_some hF
              refine an_one hS (i := 15) rfl (by kernel_rfl) rfl ?_
              refine wp_call hS rfl rfl (by decide) fn_ok_56 rfl (c_spec_AddEdge F x479 l481 (IntKind.i64.wrap (IntKind.u8.wrap ((x681.toNat : Int) - 48))) (IntKind.i64.wrap (IntKind.u8.wrap ((x683.toNat : Int) - 48))) v480 hr _ (rd_of_ow (hM.get 6 rfl))) fun v w a hK hS => ?_
              obtain ⟨v685, rfl, hN⟩ := hK
              have hM := hM.add hN rfl
              refine ⟨hM.fr, ?_⟩
              refine an_take hS (i := 16) rfl (by kernel_rfl) (by kernel_rfl) (by kernel_rfl) rfl (by decide) (fun c a a' w hd h => hQp c a a' w hd h) rfl (fun w' hC' => (rv_move (hS.ev rfl))) hM.fr fun a hS => ?_
              refine an_take hS (i := 17) rfl (by kernel_rfl) (by kernel_rfl) (by kernel_rfl) rfl (by decide) (fun c a a' w hd h => hQp c a a' w hd h) rfl (fun w' hC' => (rv_extract (hS.ev rfl) rfl)) hM.fr fun a hS => ?_
              refine an_take hS (i := 18) rfl (by kernel_rfl) (by kernel_rfl) (by kernel_rfl) rfl (by decide) (fun c a a' w hd h => hQp c a a' w hd h) rfl (fun w' hC' => (rv_extract (hS.ev rfl) rfl)) hM.fr fun a hS => ?_
              have hM := hM.pick [2, 0, 1, 3, 4, 5, 6, 7] (by decide) rfl
              obtain ⟨w, hr, hM⟩ := hM.st_agg (us := [(Value.int IntKind.i64 r87s.1), v685]) (ρ := a.eval) (dst := none) (ty := _) (pos := _) (af := _) (gd := _) (x := .tmp 7) (y := .tmp 88) (hS.ev rfl) (hS.ev rfl) ty_sz_43 (all1_cons rfl (all1_cons (rd_one (rd_of_ow (hM.get 1 rfl))) all1_nil)) rfl
              refine an_one hS (i := 20) rfl (by kernel_rfl) rfl ?_
              refine wp_unit hS rfl hr ⟨hM.fr, ?_⟩
              refine an_take hS (i := 21) rfl (by kernel_rfl) (by kernel_rfl) (by kernel_rfl) rfl (by decide) (fun c a a' w hd h => hQp c a a' w hd h) rfl (fun w' hC' => (rv_assign (hS.ev rfl))) hM.fr fun a hS => ?_
              refine an_done (by kernel_rfl) ?_
              have hN := hM.pick [0, 1, 2] (by decide) rfl
              have hM := Mem.callo (A := []) (B := [(true, bx b3 43 [(Value.int IntKind.i64 0), (Value.slice none 0 0)]), (true, ow 3 (Value.slice none 0 0) (List.map (Value.int IntKind.i64) ([] : List (Int)))), (true, ow 9 v8 (List.map (fun s => Value.string (bs s)) r7)), (true, bx b37 43 [(Value.int IntKind.i64 x479), v480]), (true, ow 3 v480 (List.map (Value.int IntKind.i64) l481))]) hB rfl (hN.memS fun _ h => h.elim) rfl
              exact hJ5 r87s.1 r87s.2.1 r87s.2.2 b684 v685 _ _ (hS.sub (sub_cons rfl (sub_cons rfl (sub_cons rfl (sub_cons rfl (sub_cons rfl (sub_cons rfl (sub_cons rfl sub_nil)))))))) (hM.pick [3, 4, 5, 6, 7, 0, 1] (by decide) rfl) hF
        refine wp_region_lit ?_
        refine st_val hS rfl rfl (by decide) (rv_move (hS.ev rfl)) fun a hS => ?_
        refine st_val hS rfl rfl (by decide) (rv_move (hS.ev rfl)) fun a hS => ?_
        obtain ⟨x686, hx, hF⟩ := bind_some hF
        obtain ⟨hi0, hi1, hex686⟩ := idxL_some hx
        refine st_val hS rfl rfl (by decide) (rv_indexAddr Tryd.underlying71 ty_el_9 (hS.ev rfl) (hS.ev rfl) (rd_of_ow (hM.get 2 rfl)) hi0 (map_len hi1)) fun a hS => ?_
        refine st_val hS rfl rfl (by decide) (rv_load_el (hS.ev rfl) ty_ag_9 (rd_of_ow (hM.get 2 rfl)) (mget hex686)) fun a hS => ?_
        refine st_val hS rfl rfl (by decide) (rv_len_str Tryd.underlying9 (hS.ev rfl)) fun a hS => ?_
        refine st_val hS rfl rfl (by decide) (rv_neq (hS.ev rfl) (hS.ev rfl)) fun a hS => ?_
        refine st_val hS rfl rfl (by decide) (rv_move (hS.ev rfl)) fun a hS => ?_
        rcases ite_some hF with ⟨hc, hF⟩ | ⟨hc, hF⟩
        · have hS := hS.setb (t := 54) rfl hc
          refine st_skip hS rfl rfl (by decide) fun a hS => ?_
          refine st_skip hS rfl rfl (by decide) fun a hS => ?_
          refine st_skip hS rfl rfl (by decide) fun a hS => ?_
          refine st_skip hS rfl rfl (by decide) fun a hS => ?_
          refine st_skip hS rfl rfl (by decide) fun a hS => ?_
          refine st_skip hS rfl rfl (by decide) fun a hS => ?_
          refine st_val hS rfl rfl (by decide) (rv_pick_t (hS.ev rfl) (hS.ev rfl)) fun a hS => ?_
          refine st_val hS rfl rfl (by decide) (rv_move (hS.ev rfl)) fun a hS => ?_
          refine st_skip hS rfl rfl (by decide) fun a hS => ?_
          refine st_skip hS rfl rfl (by decide) fun a hS => ?_
          refine st_skip hS rfl rfl (by decide) fun a hS => ?_
          refine st_skip hS rfl rfl (by decide) fun a hS => ?_
          refine st_skip hS rfl rfl (by decide) fun a hS => ?_
          refine st_skip hS rfl rfl (by decide) fun a hS => ?_
          refine st_val hS rfl rfl (by decide) (rv_pick_t (hS.ev rfl) (hS.ev rfl)) fun a hS => ?_
          refine wpList_nil ?_
          exact hJ4 true _ _ (hS.sub (sub_cons rfl (sub_cons rfl (sub_cons rfl (sub_cons rfl (sub_cons rfl (sub_cons rfl sub_nil))))))) (hM.pick [0, 1, 2, 3, 4] (by decide) rfl) hF
        · have hS := hS.setb (t := 54) rfl hc
          refine st_val hS rfl rfl (by decide) (rv_move (hS.ev rfl)) fun a hS => ?_
          refine st_val hS rfl rfl (by decide) (rv_move (hS.ev rfl)) fun a hS => ?_
          obtain ⟨x687, hx, hF⟩ := bind_some hF
          obtain ⟨hi0, hi1, hex687⟩ := idxL_some hx
          refine st_val hS rfl rfl (by decide) (rv_indexAddr Tryd.underlying71 ty_el_9 (hS.ev rfl) (hS.ev rfl) (rd_of_ow (hM.get 2 rfl)) hi0 (map_len hi1)) fun a hS => ?_
          refine st_val hS rfl rfl (by decide) (rv_load_el (hS.ev rfl) ty_ag_9 (rd_of_ow (hM.get 2 rfl)) (mget hex687)) fun a hS => ?_
          obtain ⟨x688, hx, hF⟩ := bind_some hF
          obtain ⟨hi0, hi1, hi2⟩ := idxL_some hx
          refine st_val hS rfl rfl (by decide) (rv_index Tryd.underlying9 (hS.ev rfl) (hS.ev rfl) hi0 hi2) fun a hS => ?_
          refine st_val hS rfl rfl (by decide) (rv_lss (hS.ev rfl) (hS.ev rfl)) fun a hS => ?_
          refine st_val hS rfl rfl (by decide) (rv_pick_f (hS.ev rfl) (hS.ev rfl)) fun a hS => ?_
          refine st_val hS rfl rfl (by decide) (rv_move (hS.ev rfl)) fun a hS => ?_
          rcases ite_some hF with ⟨hc, hF⟩ | ⟨hc, hF⟩
          · have hS := hS.setb (t := 62) rfl hc
            refine st_skip hS rfl rfl (by decide) fun a hS => ?_
            refine st_skip hS rfl rfl (by decide) fun a hS => ?_
            refine st_skip hS rfl rfl (by decide) fun a hS => ?_
            refine st_skip hS rfl rfl (by decide) fun a hS => ?_
            refine st_skip hS rfl rfl (by decide) fun a hS => ?_
            refine st_skip hS rfl rfl (by decide) fun a hS => ?_
            refine st_val hS rfl rfl (by decide) (rv_pick_t (hS.ev rfl) (hS.ev rfl)) fun a hS => ?_
            refine wpList_nil ?_
            exact hJ4 true _ _ (hS.sub (sub_cons rfl (sub_cons rfl (sub_cons rfl (sub_cons rfl (sub_cons rfl (sub_cons rfl sub_nil))))))) (hM.pick [0, 1, 2, 3, 4] (by decide) rfl) hF
          · have hS := hS.setb (t := 62) rfl hc
            refine st_val hS rfl rfl (by decide) (rv_move (hS.ev rfl)) fun a hS => ?_
            refine st_val hS rfl rfl (by decide) (rv_move (hS.ev rfl)) fun a hS => ?_
            obtain ⟨x689, hx, hF⟩ := bind_some hF
            obtain ⟨hi0, hi1, hex689⟩ := idxL_some hx
            refine st_val hS rfl rfl (by decide) (rv_indexAddr Tryd.underlying71 ty_el_9 (hS.ev rfl) (hS.ev rfl) (rd_of_ow (hM.get 2 rfl)) hi0 (map_len hi1)) fun a hS => ?_
            refine st_val hS rfl rfl (by decide) (rv_load_el (hS.ev rfl) ty_ag_9 (rd_of_ow (hM.get 2 rfl)) (mget hex689)) fun a hS => ?_
            obtain ⟨x690, hx, hF⟩ := bind_some hF
            obtain ⟨hi0, hi1, hi2⟩ := idxL_some hx
            refine st_val hS rfl rfl (by decide) (rv_index Tryd.underlying9 (hS.ev rfl) (hS.ev rfl) hi0 hi2) fun a hS => ?_
            refine st_val hS rfl rfl (by decide) (rv_lss (hS.ev rfl) (hS.ev rfl)) fun a hS => ?_
            refine st_val hS rfl rfl (by decide) (rv_pick_f (hS.ev rfl) (hS.ev rfl)) fun a hS => ?_
            refine wpList_nil ?_
            exact hJ4 (decide ((x690.toNat : Int) < 48)) _ _ (hS.sub (sub_cons rfl (sub_cons rfl (sub_cons rfl (sub_cons rfl (sub_cons rfl (sub_cons rfl sub_nil))))))) (hM.pick [0, 1, 2, 3, 4] (by decide) rfl) hF
      · refine cond_f hS rfl hc ?_
        refine wp_exit ?_
        cases hF
        exact hJ2 x479 l481 v480 _ _ (hS.sub (sub_cons rfl (sub_cons rfl (sub_cons rfl sub_nil)))) (hM.pick [0, 1, 3, 4] (by decide) rfl) (by have e := hX3 _ rfl; subst e; exact hF3)
  refine wp_region_lit ?_
  refine st_val hS rfl rfl (by decide) (rv_move (hS.ev rfl)) fun a hS => ?_
  obtain ⟨x691, hx, hF⟩ := bind_some hF
  obtain ⟨hi0, hi1, hex691⟩ := idxL_some hx
  refine st_val hS rfl rfl (by decide) (rv_indexAddr Tryd.underlying71 ty_el_9 (hS.ev rfl) (hS.ev rfl) (rd_of_ow (hM.get 0 rfl)) hi0 (map_len hi1)) fun a hS => ?_
  refine st_val hS rfl rfl (by decide) (rv_load_el (hS.ev rfl) ty_ag_9 (rd_of_ow (hM.get 0 rfl)) (mget hex691)) fun a hS => ?_
  refine st_val hS rfl rfl (by decide) (rv_len_str Tryd.underlying9 (hS.ev rfl)) fun a hS => ?_
  refine st_val hS rfl rfl (by decide) (rv_neq (hS.ev rfl) (hS.ev rfl)) fun a hS => ?_
  refine st_val hS rfl rfl (by decide) (rv_move (hS.ev rfl)) fun a hS => ?_
  rcases ite_some hF with ⟨hc, hF⟩ | ⟨hc, hF⟩
  · have hS := hS.setb (t := 16) rfl hc
    refine st_skip hS rfl rfl (by decide) fun a hS => ?_
    refine st_skip hS rfl rfl (by decide) fun a hS => ?_
    refine st_skip hS rfl rfl (by decide) fun a hS => ?_
    refine st_skip hS rfl rfl (by decide) fun a hS => ?_
    refine st_skip hS rfl rfl (by decide) fun a hS => ?_
    refine st_val hS rfl rfl (by decide) (rv_pick_t (hS.ev rfl) (hS.ev rfl)) fun a hS => ?_
    refine st_val hS rfl rfl (by decide) (rv_move (hS.ev rfl)) fun a hS => ?_
    refine st_skip hS rfl rfl (by decide) fun a hS => ?_
    refine st_skip hS rfl rfl (by decide) fun a hS => ?_
    refine st_skip hS rfl rfl (by decide) fun a hS => ?_
    refine st_skip hS rfl rfl (by decide) fun a hS => ?_
    refine st_skip hS rfl rfl (by decide) fun a hS => ?_
    refine st_val hS rfl rfl (by decide) (rv_pick_t (hS.ev rfl) (hS.ev rfl)) fun a hS => ?_
    refine wpList_nil ?_
    exact hJ1 true _ _ (hS.sub (sub_cons rfl (sub_cons rfl (sub_cons rfl (sub_cons rfl sub_nil))))) (hM.pick [2, 1, 0] (by decide) rfl) hF
  · have hS := hS.setb (t := 16) rfl hc
    refine st_val hS rfl rfl (by decide) (rv_move (hS.ev rfl)) fun a hS => ?_
    obtain ⟨x692, hx, hF⟩ := bind_some hF
    obtain ⟨hi0, hi1, hex692⟩ := idxL_some hx
    refine st_val hS rfl rfl (by decide) (rv_indexAddr Tryd.underlying71 ty_el_9 (hS.ev rfl) (hS.ev rfl) (rd_of_ow (hM.get 0 rfl)) hi0 (map_len hi1)) fun a hS => ?_
    refine st_val hS rfl rfl (by decide) (rv_load_el (hS.ev rfl) ty_ag_9 (rd_of_ow (hM.get 0 rfl)) (mget hex692)) fun a hS => ?_
    obtain ⟨x693, hx, hF⟩ := bind_some hF
    obtain ⟨hi0, hi1, hi2⟩ := idxL_some hx
    refine st_val hS rfl rfl (by decide) (rv_index Tryd.underlying9 (hS.ev rfl) (hS.ev rfl) hi0 hi2) fun a hS => ?_
    refine st_val hS rfl rfl (by decide) (rv_lss (hS.ev rfl) (hS.ev rfl)) fun a hS => ?_
    refine st_val hS rfl rfl (by decide) (rv_pick_f (hS.ev rfl) (hS.ev rfl)) fun a hS => ?_
    refine st_val hS rfl rfl (by decide) (rv_move (hS.ev rfl)) fun a hS => ?_
    rcases ite_some hF with ⟨hc, hF⟩ | ⟨hc, hF⟩
    · have hS := hS.setb (t := 23) rfl hc
      refine st_skip hS rfl rfl (by decide) fun a hS => ?_
      refine st_skip hS rfl rfl (by decide) fun a hS => ?_
      refine st_skip hS rfl rfl (by decide) fun a hS => ?_
      refine st_skip hS rfl rfl (by decide) fun a hS => ?_
      refine st_skip hS rfl rfl (by decide) fun a hS => ?_
      refine st_val hS rfl rfl (by decide) (rv_pick_t (hS.ev rfl) (hS.ev rfl)) fun a hS => ?_
      refine wpList_nil ?_
      exact hJ1 true _ _ (hS.sub (sub_cons rfl (sub_cons rfl (sub_cons rfl (sub_cons rfl sub_nil))))) (hM.pick [2, 1, 0] (by decide) rfl) hF
    · have hS := hS.setb (t := 23) rfl hc
      refine st_val hS rfl rfl (by decide) (rv_move (hS.ev rfl)) fun a hS => ?_
      obtain ⟨x694, hx, hF⟩ := bind_some hF
      obtain ⟨hi0, hi1, hex694⟩ := idxL_some hx
      refine st_val hS rfl rfl (by decide) (rv_indexAddr Tryd.underlying71 ty_el_9 (hS.ev rfl) (hS.ev rfl) (rd_of_ow (hM.get 0 rfl)) hi0 (map_len hi1)) fun a hS => ?_
      refine st_val hS rfl rfl (by decide) (rv_load_el (hS.ev rfl) ty_ag_9 (rd_of_ow (hM.get 0 rfl)) (mget hex694)) fun a hS => ?_
      obtain ⟨x695, hx, hF⟩ := bind_some hF
      obtain ⟨hi0, hi1, hi2⟩ := idxL_some hx
      refine st_val hS rfl rfl (by decide) (rv_index Tryd.underlying9 (hS.ev rfl) (hS.ev rfl) hi0 hi2) fun a hS => ?_
      refine st_val hS rfl rfl (by decide) (rv_gtr (hS.ev rfl) (hS.ev rfl)) fun a hS => ?_
      refine st_val hS rfl rfl (by decide) (rv_pick_f (hS.ev rfl) (hS.ev rfl)) fun a hS => ?_
      refine wpList_nil ?_
      exact hJ1 (decide ((55 : Int) < (x695.toNat : Int))) _ _ (hS.sub (sub_cons rfl (sub_cons rfl (sub_cons rfl (sub_cons rfl sub_nil))))) (hM.pick [2, 1, 0] (by decide) rfl) hF


end Go.Proofs.YtgddopammpjkgaaDoor
