/- Proved here: the functions on graphs agree on drawn graphs, and undo each other. -/
import Derived.Test.YtdalcpadcggklaaDoorPdrg
import Derived.Test.YtdalcpadcggklaaDoorPpg
import Derived.Test.YtdalcpadcggklaaDoorPord
import Derived.Test.YtdalcpadcggklaaDoorPcl
import Derived.Test.YtdalcpadcggklaaDoorProws
import Derived.Test.YtdalcpadcggklaaDoorPcomp
namespace Go.Proofs.YtdalcpadcggklaaDoor
open Go Go.RowKit
set_option linter.unusedVariables false
set_option linter.unusedSimpArgs false

theorem sameI (F : Nat) (a b : List Int) (hF : a.length < F) (hl : a.length ≤ 1048576) : S_laws_sameInts F a b = some (decide (a = b)) := by
  unfold S_laws_sameInts
  by_cases h : a.length = b.length
  · rw [if_neg (by simp [h]), eq_loop F a b h hF (by omega) (fun x => S_laws_sameInts_l2 F a b x) (fun x => rfl), obind]
    by_cases e : a = b
    · simp [e, S_laws_sameInts_j1]
    · simp [e]
  · rw [if_pos (by simp; omega)]
    have : a ≠ b := fun e => h (by rw [e])
    simp [this]

theorem fmtG_le {m : Nat} {R : Nat → Nat} (g : VG m R) : (fmtG m R).length ≤ 50000 := by
  have h7 := g.n7
  have hl := eOut_len m h7 R m
  have hp := eOut_prs m R
  have a0 := Lib.itoa_length_le (m : Int) (by omega) (by omega)
  have b1 := fmtE_len h7 _ hp
  unfold fmtG
  simp only [List.length_append, List.length_cons, List.length_nil]
  omega
theorem fmtG_ne {m : Nat} {R : Nat → Nat} : fmtG m R ≠ [] := by
  unfold fmtG
  simp

/-! ### the edges of a graph and of its complement -/

theorem eInC {m : Nat} {R : Nat → Nat} (g : VG m R) {v : Nat} (hv : v < m) : ∀ k, v + 1 + k ≤ m → (eIn R v (v + 1) k).length + (eIn (compR m R) v (v + 1) k).length = k
  | 0, _ => rfl
  | k + 1, h => by
    have ih := eInC g hv k (by omega)
    rw [eIn_succ, eIn_succ, List.length_append, List.length_append, compB g hv (by omega)]
    have : (v + 1 + k != v) = true := by simp only [bne_iff_ne]; omega
    rw [this]
    cases (R v).testBit (v + 1 + k) <;> simp <;> omega
def tri (m : Nat) : Nat → Nat
  | 0 => 0
  | k + 1 => tri m k + (m - (k + 1))
theorem eOutC {m : Nat} {R : Nat → Nat} (g : VG m R) : ∀ k, k ≤ m → (eOut m R k).length + (eOut m (compR m R) k).length = tri m k
  | 0, _ => rfl
  | k + 1, h => by
    have ih := eOutC g k (by omega)
    have i2 := eInC g (v := k) (by omega) (m - (k + 1)) (by omega)
    rw [eOut_succ, eOut_succ, List.length_append, List.length_append]
    simp only [tri]
    omega
theorem tri_eq : ∀ m : Nat, m ≤ 7 → IntKind.i64.wrap (tri m m : Int) = IntKind.i64.wrap ((IntKind.i64.wrap ((m : Int) * (IntKind.i64.wrap ((m : Int) - 1)))).tdiv 2) := by decide +kernel

theorem hasE_nat {m : Nat} {R : Nat → Nat} (g : VG m R) {a b : Nat} (ha : a < m) (hb : b < m) : hasE (m : Int) (rowsOf m R) (a : Int) (b : Int) = (R a).testBit b := by
  unfold hasE
  rw [isG_intro g, inB_iff.2 (show (0 : Int) ≤ (a : Int) ∧ (a : Int) ≤ (m : Int) - 1 by omega), inB_iff.2 (show (0 : Int) ≤ (b : Int) ∧ (b : Int) ≤ (m : Int) - 1 by omega), Int.toNat_natCast, Int.toNat_natCast, rowsOf_getD ha, hasB_nat]
  rfl

theorem flip2 {m : Nat} {R : Nat → Nat} {a b : Nat} (hne : a ≠ b) : rowsOf m (flipR (flipR R a b) b a) = rowsOf m R := by
  apply rowsOf_congr
  intro u _
  unfold flipR
  have hx : ∀ x y : Nat, x ^^^ y ^^^ y = x := fun x y => by rw [Nat.xor_assoc, Nat.xor_self, Nat.xor_zero]
  by_cases h1 : u = b
  · subst h1
    have : ¬ u = a := by omega
    simp [this, hx]
  · by_cases h2 : u = a
    · subst h2
      simp [h1, hx]
    · simp [h1, h2]
theorem flip_at {R : Nat → Nat} {a b : Nat} (hab : (R a).testBit b = false) : (flipR R a b a).testBit b = true := by
  unfold flipR
  rw [if_pos rfl, Nat.testBit_xor, hab, Nat.testBit_two_pow_self]
  rfl

end Go.Proofs.YtdalcpadcggklaaDoor
