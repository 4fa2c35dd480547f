/- Proved here: an encoded number is decoded again, whatever follows. -/
import Derived.Test.YtgddopammpjkgaaDoorPienc
import Derived.Test.YtgddopammpjkgaaDoorPpint
import Derived.Test.YtgddopammpjkgaaDoorPdraw
namespace Go.Proofs.YtgddopammpjkgaaDoor
open Go Go.RowKit
set_option linter.unusedVariables false
set_option linter.unusedSimpArgs false

theorem fie_j2 (F : Nat) (hF : 2097152 ≤ F) (t : List UInt8) (ht : t.length ≤ 40) (w : Int × Int) (hw : I64 w.1) : S_laws_FnIntegerEncodings_j2 F t w false = some true := by
  unfold S_laws_FnIntegerEncodings_j2
  have hI : I64 w.1 := hw
  unfold I64 at hI
  rw [if_neg (by simp), iEncodeHex F hF t (by omega), obind, iDecHex F hF t (by omega), obind, iFormatInt F _ hw, obind]
  have hL : ((u8s (hexOf t)).length : Int) = IntKind.i64.wrap (2 * (t.length : Int)) := by rw [u8s_len, hexOf_len, w64 (by omega) (by omega)]; simp
  have hS := sFormatInt F (by omega) w.1 hw
  by_cases hn : -999999999 ≤ w.1 ∧ w.1 ≤ 999999999
  · have hP := (iParseInt F (Lib.itoa w.1)).1 w.1 ⟨hn.1, hn.2, rfl⟩
    rw [hP, obind]
    have h1 : decide (-1000000000 < w.1) = true := by simp; omega
    have h2 : decide (w.1 < 1000000000) = true := by simp; omega
    simp only [hL, hS, obind, h1, h2, if_true, beq_self_eq_true, Bool.not_true, Bool.false_eq_true, if_false, S_laws_FnIntegerEncodings_j3]
  · have hP := (iParseInt F (Lib.itoa w.1)).2 (fun m hm => by
      have e : m = w.1 := by
        have h1 := atoi_itoa m
        have h2 := atoi_itoa w.1
        rw [hm.2.2, h2] at h1
        exact (Option.some.inj h1).symm
      exact hn ⟨by rw [← e]; exact hm.1, by rw [← e]; exact hm.2.1⟩)
    rw [hP, obind]
    simp only [hL, hS, obind, if_true, beq_self_eq_true, Bool.not_false, S_laws_FnIntegerEncodings_j3]
    by_cases h1 : -1000000000 < w.1
    · have h2 : decide (w.1 < 1000000000) = false := by simp; omega
      rw [if_pos (by simpa using h1), h2, beq_self_eq_true]
    · rw [if_neg (by simpa using h1)]

theorem fie_j1 (F : Nat) (hF : 2097152 ≤ F) (code : List Int) (hC : code.length ≤ 1048576) (t : List UInt8) (ht : t.length ≤ 40) : S_laws_FnIntegerEncodings_j1 F code t false = some true := by
  unfold S_laws_FnIntegerEncodings_j1
  obtain ⟨w, e, hw, hw2⟩ := d_EncodeFixed F (by omega) code hC
  have hj := fie_j2 F hF t ht w hw
  obtain ⟨f, e1, e2, hf, hl⟩ := kEncodeFixed F hF w.1 w.2 hw hw2
  obtain ⟨r, e3, h3⟩ := iDecFixed F (by omega) (f ++ t) w.2 hw2
  rw [if_neg (by simp), e, obind, e2, obind, catO_ok (by omega), obind, e3, obind, e1]
  by_cases hne : f = []
  · rw [if_neg (by simpa using hne), obind, bne_self_eq_false]
    exact hj
  · obtain ⟨k, q, hk, hq, h1, h7, hfr, hlt⟩ := hf hne
    have hfl : f.length = k := by rw [hfr, u8s_len, beK_len]
    have hr := h3 k hk h1 h7 (by simp; omega)
    have htk : (f ++ t).take k = f := by rw [← hfl, List.take_left]
    rw [htk, hfr, decN_beK k q hlt, ← hq] at hr
    rw [hr, if_pos (by simpa using hne)]
    dsimp only
    rw [if_neg (by simp), if_neg (by simp), if_neg (by rw [hfl, ← hk]; simp), obind, bne_self_eq_false]
    exact hj

theorem P_FnIntegerEncodings (F : Nat) (hF : 2097152 ≤ F) (code : List Int) (h8 : ∀ x, x ∈ code → U8 x) (hm : code.length ≤ maxLen) : S_laws_FnIntegerEncodings F code = some true := by
  unfold S_laws_FnIntegerEncodings
  rw [bigL, obind]
  by_cases hl : (1048576 : Int) < (code.length : Int)
  · rw [if_pos (by simpa using hl)]
  · have hC : code.length ≤ 1048576 := by omega
    rw [if_neg (by simpa using hl)]
    obtain ⟨n, e, hn⟩ := d_EncodeVarint F (by omega) code hC
    obtain ⟨t, e2, ht⟩ := d_EncodeHex F (by omega) code hC
    obtain ⟨s, e3, hs, hs1, hs2⟩ := iEncVar F hF n hn
    have hj := fie_j1 F hF code hC t ht
    rw [e, obind, e2, obind, e3, obind, catO_ok (by omega), obind]
    by_cases hr : 0 ≤ n ∧ n ≤ 562949953421311
    · obtain ⟨q, hq, hlt, hmap⟩ := hs1 hr
      have hd := dec_enc F hF s t q hlt hmap (by omega)
      have hne : s ≠ [] := by
        rintro rfl
        exact vb_ne 6 q (by simpa using hmap.symm)
      have hb : (s != ([] : List UInt8)) = true := by simpa using hne
      have hd2 : decide (n ≤ 562949953421311) = true := by simpa using hr.2
      rw [hd, obind, if_pos (by simpa using hr.1), hb, hd2]
      dsimp only
      rw [if_neg (by simp), if_pos rfl, if_neg (by rw [hq]; simp), bne_self_eq_false]
      exact hj
    · have hs0 := hs2 hr
      subst hs0
      clear hs1 hs2 hj hs
      have hj := fie_j1 F hF code hC t ht
      obtain ⟨x, hx, _⟩ := iDec F hF ([] ++ t) (by rw [List.nil_append]; exact Nat.le_trans ht (by decide))
      rw [hx, obind]
      have hb : (([] : List UInt8) != ([] : List UInt8)) = false := by simp
      rw [hb]
      by_cases h0 : 0 ≤ n
      · have hd2 : decide (n ≤ 562949953421311) = false := by simp; omega
        rw [if_pos (by simpa using h0), hd2, if_neg (by simp), if_neg (by simp)]
        exact hj
      · rw [if_neg (by simpa using h0), if_neg (by simp), if_neg (by simp)]
        exact hj

end Go.Proofs.YtgddopammpjkgaaDoor
