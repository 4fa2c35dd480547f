/- Proved here: what the functions on sets of vertices and on lists of vertices compute. -/
import Derived.Test.YtblbimlobacciaaPgr
namespace Go.Proofs.Ytblbimlobacciaa
open Go Go.RowKit
set_option linter.unusedVariables false
set_option linter.unusedSimpArgs false

/-! ### words of bits -/

theorem sub_bit : ∀ s, s < 128 → ∀ v, v < 7 → s.testBit v = true → s - 2 ^ v = s ^^^ 2 ^ v := by decide
theorem add_bit : ∀ s, s < 128 → ∀ v, v < 7 → s.testBit v = false → s + 2 ^ v = s ||| 2 ^ v := by decide
theorem bit_le : ∀ s, s < 128 → ∀ v, v < 7 → s.testBit v = true → 2 ^ v ≤ s := by decide
theorem pow_le64 : ∀ v, v < 7 → 2 ^ v ≤ 64 := by decide
theorem or_lt128 {a b : Nat} (ha : a < 128) (hb : b < 128) : a ||| b < 128 := Nat.or_lt_two_pow (n := 7) ha hb
theorem and_lt128 {a b : Nat} (ha : a < 128) : a &&& b < 128 := Nat.lt_of_le_of_lt Nat.and_le_left ha
theorem xor_lt128 {a b : Nat} (ha : a < 128) (hb : b < 128) : a ^^^ b < 128 := Nat.xor_lt_two_pow (n := 7) ha hb
theorem bit_ge {s n v : Nat} (h : s < 2 ^ n) (hv : n ≤ v) : s.testBit v = false := Nat.testBit_lt_two_pow (Nat.lt_of_lt_of_le h (Nat.pow_le_pow_right (by decide) hv))
theorem bit_lt {s n v : Nat} (h : s < 2 ^ n) (hv : s.testBit v = true) : v < n := by
  rcases Nat.lt_or_ge v n with g | g
  · exact g
  · rw [bit_ge h g] at hv; cases hv
theorem ext7 {a b n : Nat} (ha : a < 2 ^ n) (hb : b < 2 ^ n) (h : ∀ i, i < n → a.testBit i = b.testBit i) : a = b := by
  apply Nat.eq_of_testBit_eq
  intro i
  rcases Nat.lt_or_ge i n with g | g
  · exact h i g
  · rw [bit_ge ha g, bit_ge hb g]

/-- What is in one set and not in another. -/
def ndiff (a b : Nat) : Nat := a ^^^ (a &&& b)
theorem ndiff_bit (a b i : Nat) : (ndiff a b).testBit i = (a.testBit i && !(b.testBit i)) := by
  unfold ndiff
  rw [Nat.testBit_xor, Nat.testBit_and]
  cases a.testBit i <;> cases b.testBit i <;> rfl
theorem ndiff_lt {a b n : Nat} (h : a < 2 ^ n) : ndiff a b < 2 ^ n := Nat.xor_lt_two_pow h (Nat.lt_of_le_of_lt Nat.and_le_left h)
theorem bAndNot_nat (a b : Nat) (ha : a < 2 ^ 63) (hb : b < 2 ^ 63) : bAndNot (a : Int) (b : Int) = ((ndiff a b : Nat) : Int) := by
  unfold bAndNot
  rw [bv_nat a ha, bv_nat b hb]
  have h : (BitVec.ofNat 64 a &&& ~~~BitVec.ofNat 64 b).toNat = ndiff a b := by
    apply Nat.eq_of_testBit_eq
    intro i
    rw [ndiff_bit, BitVec.toNat_and, Nat.testBit_and, BitVec.testBit_toNat, BitVec.testBit_toNat]
    rcases Nat.lt_or_ge i 64 with g | g
    · rw [BitVec.getLsbD_not, BitVec.getLsbD_ofNat, BitVec.getLsbD_ofNat]
      simp [g]
    · rw [BitVec.getLsbD_of_ge _ _ g, bit_ge ha (by omega)]
      simp
  rw [h]
  have : ndiff a b < 2 ^ 63 := ndiff_lt ha
  exact w64 (by omega) (by omega)

theorem allB_list {α : Type} (l : List α) (d : α) (q : α → Bool) : allB l.length (fun k => q (l.getD k d)) = l.all q := by
  rw [Bool.eq_iff_iff, allB_iff, List.all_eq_true]
  constructor
  · intro h x hx
    obtain ⟨i, hi, rfl⟩ := List.mem_iff_getElem.1 hx
    have := h i hi
    simpa [hi] using this
  · intro h k hk
    simp only [List.getD_eq_getElem?_getD, List.getElem?_eq_getElem hk, Option.getD_some]
    exact h _ (List.getElem_mem hk)

theorem all_selN (n : Nat) (p : Nat → Bool) (q : Int → Bool) : (selN n p).all q = allB n (fun v => !(p v) || q (v : Int)) := by
  rw [Bool.eq_iff_iff, List.all_eq_true, allB_iff]
  constructor
  · intro h k hk
    cases hp : p k with
    | false => rfl
    | true => simpa using h _ (mem_selN.2 ⟨k, hk, hp, rfl⟩)
  · intro h x hx
    obtain ⟨k, hk, hp, rfl⟩ := mem_selN.1 hx
    have := h k hk
    simpa [hp] using this

theorem listN_nat {s n : Nat} (h : s < 2 ^ n) (hn : n ≤ 7) : listN (s : Int) = selN 7 s.testBit := by
  have := pow128 hn
  unfold listN
  rw [if_pos (inB_iff.2 ⟨by omega, by omega⟩)]
  exact selN_congr fun k _ => hasB_nat s k

theorem allB_bits {s n : Nat} (h : s < 2 ^ n) (hn : n ≤ 7) (q : Nat → Bool) : allB 7 (fun v => !(s.testBit v) || q v) = allB n (fun v => !(s.testBit v) || q v) := by
  rw [Bool.eq_iff_iff, allB_iff, allB_iff]
  constructor
  · exact fun g k hk => g k (by omega)
  · intro g k hk
    rcases Nat.lt_or_ge k n with h1 | h1
    · exact g k h1
    · rw [bit_ge h h1]; rfl

/-- A fold over a list, in a loop with an index. -/
theorem loop_list {σ β α γ : Type} {body : σ → Option (σ ⊕ β)} (l : List γ) (mk : α → Int → σ) (step : α → γ → α) (Inv : α → Prop) (bn : α → β)
    (h : ∀ (k : Nat) (hk : k < l.length) a, Inv a → body (mk a (k : Int)) = some (.inl (mk (step a l[k]) ((k + 1 : Nat) : Int))) ∧ Inv (step a l[k]))
    (he : ∀ a, Inv a → body (mk a (l.length : Int)) = some (.inr (bn a))) {F : Nat} (a0 : α) (h0 : Inv a0) (hF : l.length < F) :
    loopN body F (mk a0 0) = some (bn (l.foldl step a0)) ∧ Inv (l.foldl step a0) := by
  have key : ∀ (m k : Nat) (hk : k + m = l.length) (a : α), Inv a → ∀ F, m < F → loopN body F (mk a (k : Int)) = some (bn ((l.drop k).foldl step a)) ∧ Inv ((l.drop k).foldl step a) := by
    intro m
    induction m with
    | zero =>
      intro k hk a ha F hF
      obtain ⟨q, rfl⟩ : ∃ q, F = q + 1 := ⟨F - 1, by omega⟩
      obtain rfl : k = l.length := by omega
      simp [loopN, he a ha, ha]
    | succ m ih =>
      intro k hk a ha F hF
      obtain ⟨q, rfl⟩ : ∃ q, F = q + 1 := ⟨F - 1, by omega⟩
      have hkl : k < l.length := by omega
      obtain ⟨h1, h2⟩ := h k hkl a ha
      have := ih (k + 1) (by omega) _ h2 q (by omega)
      rw [List.drop_eq_getElem_cons hkl]
      simp only [loopN, h1, List.foldl_cons]
      exact this
  have := key l.length 0 (by omega) a0 h0 F hF
  simpa using this

/-! ### neighbours -/

def nbr (R : Nat → Nat) (s : Nat) : Nat := (selN 7 s.testBit).foldl (fun a (v : Int) => a ||| R v.toNat) 0

theorem foldl_or_bit (R : Nat → Nat) (l : List Int) (a i : Nat) : (l.foldl (fun a (v : Int) => a ||| R v.toNat) a).testBit i = (a.testBit i || l.any fun v => (R v.toNat).testBit i) := by
  induction l generalizing a with
  | nil => simp
  | cons x r ih => simp [ih, Nat.testBit_or, Bool.or_assoc]

theorem nbr_bit {R : Nat → Nat} {s n : Nat} (h : s < 2 ^ n) (hn : n ≤ 7) (i : Nat) : (nbr R s).testBit i = true ↔ ∃ v, v < n ∧ s.testBit v = true ∧ (R v).testBit i = true := by
  unfold nbr
  rw [foldl_or_bit]
  simp only [Nat.zero_testBit, Bool.false_or, List.any_eq_true, mem_selN]
  constructor
  · rintro ⟨x, ⟨k, hk, hp, rfl⟩, hx⟩
    exact ⟨k, bit_lt h hp, hp, by simpa using hx⟩
  · rintro ⟨v, hv, hp, hx⟩
    exact ⟨(v : Int), ⟨v, by omega, hp, rfl⟩, by simpa using hx⟩

theorem nbr_lt {n s : Nat} {R : Nat → Nat} (g : VG n R) (h : s < 2 ^ n) : nbr R s < 2 ^ n := by
  apply Nat.lt_of_not_le
  intro hle
  obtain ⟨i, hi, hb⟩ := Nat.exists_ge_and_testBit_of_ge_two_pow hle
  obtain ⟨v, hv, _, hx⟩ := (nbr_bit h g.n7 i).1 hb
  have := bit_lt (g.lt v hv) hx
  omega

def cliq (n : Nat) (R : Nat → Nat) (s : Nat) : Bool := allB n (fun v => !(s.testBit v) || allB n (fun w => !(s.testBit w) || (w == v) || (R v).testBit w))

def isS (n : Int) (rows : List Int) (s : Int) : Bool := isG n rows && inB s 0 ((2 : Int) ^ n.toNat - 1)
theorem isS_elim {n : Int} {rows : List Int} {s : Int} (h : isS n rows s = true) : ∃ (m : Nat) (R : Nat → Nat) (z : Nat), n = (m : Int) ∧ rows = rowsOf m R ∧ s = (z : Int) ∧ VG m R ∧ z < 2 ^ m := by
  simp only [isS, Bool.and_eq_true, inB_iff] at h
  obtain ⟨h1, h2, h3⟩ := h
  obtain ⟨m, R, rfl, rfl, g⟩ := isG_elim h1
  rw [Int.toNat_natCast, pow2cast] at h3
  refine ⟨m, R, s.toNat, rfl, rfl, by omega, g, ?_⟩
  generalize 2 ^ m = q at *
  omega
theorem isS_intro {m : Nat} {R : Nat → Nat} {z : Nat} (g : VG m R) (h : z < 2 ^ m) : isS (m : Int) (rowsOf m R) (z : Int) = true := by
  simp only [isS, isG_intro g, Bool.true_and, inB_iff, Int.toNat_natCast]
  rw [pow2cast]
  generalize 2 ^ m = q at *
  omega
theorem isS_nat {m : Nat} {R : Nat → Nat} {z : Nat} (g : VG m R) : isS (m : Int) (rowsOf m R) (z : Int) = decide (z < 2 ^ m) := by
  simp only [isS, isG_intro g, Bool.true_and, Int.toNat_natCast]
  rw [Bool.eq_iff_iff, inB_iff, pow2cast]
  generalize 2 ^ m = q at *
  simp only [decide_eq_true_eq]
  omega

/-! ### lists of vertices -/

def bitsOf (l : List Int) : Nat := l.foldl (fun a v => a ||| 2 ^ (v.toNat % 7)) 0
theorem bitsOf_snoc (l : List Int) (v : Int) : bitsOf (l ++ [v]) = bitsOf l ||| 2 ^ (v.toNat % 7) := by simp [bitsOf]
theorem bitsOf_lt (l : List Int) : bitsOf l < 128 := by
  have : ∀ (l : List Int) (a : Nat), a < 128 → l.foldl (fun a (v : Int) => a ||| 2 ^ (v.toNat % 7)) a < 128 := by
    intro l
    induction l with
    | nil => exact fun a h => h
    | cons x r ih => exact fun a h => ih _ (or_lt128 h (Nat.lt_of_le_of_lt (pow_le64 _ (Nat.mod_lt _ (by decide))) (by decide)))
  exact this l 0 (by decide)
theorem bitsOf_bit (l : List Int) (i : Nat) : (bitsOf l).testBit i = l.any (fun v => v.toNat % 7 == i) := by
  have : ∀ (l : List Int) (a : Nat), (l.foldl (fun a (v : Int) => a ||| 2 ^ (v.toNat % 7)) a).testBit i = (a.testBit i || l.any (fun v => v.toNat % 7 == i)) := by
    intro l
    induction l with
    | nil => simp
    | cons x r ih =>
      intro a
      rw [List.foldl_cons, ih, Nat.testBit_or, Nat.testBit_two_pow, List.any_cons, Bool.or_assoc]
      rfl
  unfold bitsOf
  rw [this l 0]
  simp

def okAt (l : List Int) (k : Nat) : Bool := inB (l.getD k 0) 0 6 && !((bitsOf (l.take k)).testBit (l.getD k 0).toNat)
def okL (l : List Int) : Bool := allB l.length (okAt l)
def nodupB (l : List Int) : Bool := allB l.length (fun k => !((l.take k).contains (l.getD k 0)))

theorem bit_mem {l : List Int} (h : ∀ x, x ∈ l → 0 ≤ x ∧ x ≤ 6) {x : Int} (h0 : 0 ≤ x) (h6 : x ≤ 6) : (bitsOf l).testBit x.toNat = l.contains x := by
  rw [bitsOf_bit, Bool.eq_iff_iff, List.any_eq_true, List.contains_iff_mem]
  constructor
  · rintro ⟨y, hy, hx⟩
    have := h y hy
    simp only [beq_iff_eq] at hx
    rw [show x = y by omega]; exact hy
  · intro hx
    exact ⟨x, hx, by simp only [beq_iff_eq]; omega⟩

theorem okL_eq (l : List Int) : okL l = (l.all (fun v => inB v 0 6) && nodupB l) := by
  rw [Bool.eq_iff_iff, Bool.and_eq_true]
  unfold okL nodupB
  rw [← allB_list l 0 (fun v => inB v 0 6), allB_iff, allB_iff, allB_iff]
  have mem : ∀ k, (∀ j, j < l.length → inB (l.getD j 0) 0 6 = true) → ∀ x, x ∈ l.take k → 0 ≤ x ∧ x ≤ 6 := by
    intro k h x hx
    obtain ⟨i, hi, rfl⟩ := List.mem_iff_getElem.1 (List.mem_of_mem_take hx)
    have := h i hi
    simp only [List.getD_eq_getElem?_getD, List.getElem?_eq_getElem hi, Option.getD_some] at this
    exact inB_iff.1 this
  constructor
  · intro h
    have h1 : ∀ j, j < l.length → inB (l.getD j 0) 0 6 = true := fun j hj => by
      have := h j hj
      simp only [okAt, Bool.and_eq_true] at this
      exact this.1
    refine ⟨h1, fun k hk => ?_⟩
    have := h k hk
    simp only [okAt, Bool.and_eq_true] at this
    have h2 := inB_iff.1 this.1
    rw [← bit_mem (mem k h1) h2.1 h2.2]
    exact this.2
  · rintro ⟨h1, h2⟩ k hk
    have h3 := inB_iff.1 (h1 k hk)
    simp only [okAt, Bool.and_eq_true]
    refine ⟨h1 k hk, ?_⟩
    rw [bit_mem (mem k h1) h3.1 h3.2]
    exact h2 k hk

def isV (n : Int) (rows : List Int) (l : List Int) : Bool := isG n rows && l.all (fun v => inB v 0 (n - 1)) && nodupB l

theorem sIsSet (F : Nat) (hF : 8 ≤ F) (n : Int) (rows : List Int) (hr : Row64 rows) (s : Int) : S_spec_IsSet F n rows s = some (isS n rows s) := by
  unfold S_spec_IsSet isS
  rw [sIsGraph F hF n rows hr, obind]
  cases h : isG n rows with
  | false => simp [S_spec_IsSet_j1]
  | true =>
    obtain ⟨m, R, rfl, rfl, g⟩ := isG_elim h
    have := g.n7
    have hp := pow128 this
    rw [if_pos rfl, nnO_ok (by omega), obind, shL1 (by omega)]
    have e : inB s 0 ((2 : Int) ^ ((m : Int)).toNat - 1) = (decide (0 ≤ s) && decide (s < ((2 ^ m : Nat) : Int))) := by
      rw [Bool.eq_iff_iff, inB_iff, Bool.and_eq_true, decide_eq_true_eq, decide_eq_true_eq, Int.toNat_natCast, pow2cast]
      generalize 2 ^ m = q at *
      omega
    rw [e]
    unfold S_spec_IsSet_j1
    cases decide (0 ≤ s) <;> simp

theorem sEdge (F : Nat) {m : Nat} {R : Nat → Nat} (g : VG m R) {v w : Nat} (hv : v < m) (hw : w ≤ 64) (n : Int) : S_spec_l2Edge F n (rowsOf m R) (v : Int) (w : Int) = some ((R v).testBit w) := by
  unfold S_spec_l2Edge
  have := g.b128 hv
  rw [rowsOf_idx hv, obind, nnO_ok (by omega), obind, bit_nat (by omega) hw]

end Go.Proofs.Ytblbimlobacciaa
