/- Proved here: the functions on orders agree on drawn graphs, and what they give has the properties. -/
import Derived.Test.YtilfniehellmmaaPdrg
import Derived.Test.YtilfniehellmmaaPbre
import Derived.Test.YtilfniehellmmaaPcard
import Derived.Test.YtilfniehellmmaaPpart
import Derived.Test.YtilfniehellmmaaPlater
namespace Go.Proofs.Ytilfniehellmmaa
open Go Go.RowKit
set_option linter.unusedVariables false
set_option linter.unusedSimpArgs false

theorem rowsOf_inj {m : Nat} {R S : Nat → Nat} (h : rowsOf m R = rowsOf m S) {v : Nat} (hv : v < m) : R v = S v := by
  have h1 := rowsOf_getD (R := R) hv
  have h2 := rowsOf_getD (R := S) hv
  rw [h] at h1
  rw [h1] at h2
  omega

theorem bst_max (av : Nat → Bool) (val : Nat → Nat) : ∀ (k b : Nat), bst av val k = some b → ∀ u, u < k → av u = true → val u ≤ val b
  | 0, b, h, u, hu, _ => by omega
  | k + 1, b, h, u, hu, ha => by
    unfold bst at h
    by_cases c : (av k && better val (bst av val k) k) = true
    · rw [if_pos c] at h
      cases h
      by_cases e : u = k
      · rw [e]; exact Nat.le_refl _
      · rw [Bool.and_eq_true] at c
        cases hb : bst av val k with
        | none =>
          have := bst_none av val k hb u (by omega)
          rw [this] at ha; cases ha
        | some b2 =>
          have h1 := bst_max av val k b2 hb u (by omega) ha
          rw [hb] at c
          have : val b2 < val k := by simpa [better] using c.2
          omega
    · rw [if_neg c] at h
      by_cases e : u = k
      · subst e
        rw [ha, Bool.true_and, h] at c
        simp only [better, decide_eq_true_eq] at c
        omega
      · exact bst_max av val k b h u (by omega) ha

/-- Each one from the second on has a greatest label among those that are not yet taken. -/
def GrD (m : Nat) (R : Nat → Nat) (l : List Int) : Prop := ∀ i, 1 ≤ i → i < l.length → ∀ u : Nat, u < m → (l.take i).contains (u : Int) = false → lab R (l.take i) u ≤ lab R (l.take i) (l.getD i 0).toNat
theorem GrD.one {m : Nat} {R : Nat → Nat} (x : Int) : GrD m R [x] := by
  intro i h1 h2
  simp at h2
  omega
theorem GrD.snoc {m : Nat} {R : Nat → Nat} {l : List Int} {b : Nat} (h : GrD m R l) (hb : ∀ u, u < m → avl l u = true → lab R l u ≤ lab R l b) : GrD m R (l ++ [(b : Int)]) := by
  intro i h1 h2 u hu hc
  simp at h2
  by_cases e : i = l.length
  · subst e
    rw [List.take_left] at hc ⊢
    have : (l ++ [(b : Int)]).getD l.length 0 = (b : Int) := by simp
    rw [this, Int.toNat_natCast]
    exact hb u hu (by unfold avl; rw [hc]; rfl)
  · have hi : i < l.length := by omega
    rw [List.take_append_of_le_length (by omega)] at hc ⊢
    have : (l ++ [(b : Int)]).getD i 0 = l.getD i 0 := by simp [List.getElem?_append, hi]
    rw [this]
    exact h i h1 hi u hu hc
theorem lab_congr {m : Nat} {R S : Nat → Nat} (h : ∀ v, v < m → R v = S v) {u : Nat} (hu : u < m) (l : List Int) : lab R l u = lab S l u := by
  unfold lab
  rw [h u hu]
theorem GrD.congr {m : Nat} {R S : Nat → Nat} {l : List Int} (h : GrD m R l) (g : VG m R) (he : ∀ v, v < m → R v = S v) (ho : Ord m l) : GrD m S l := by
  intro i h1 h2 u hu hc
  have hx := ho.mem _ (getD_mem h2)
  rw [← lab_congr he hu, ← lab_congr he (u := (l.getD i 0).toNat) (by omega)]
  exact h i h1 h2 u hu hc
theorem Ord.isO {m : Nat} {R : Nat → Nat} {l : List Int} (h : Ord m l) (g : VG m R) (hl : l.length = m) : Go.Proofs.Ytilfniehellmmaa.isO (m : Int) (rowsOf m R) l = true := by
  unfold Go.Proofs.Ytilfniehellmmaa.isO isV
  rw [isG_intro g, Bool.true_and, hl, beq_self_eq_true, Bool.and_true, Bool.and_eq_true]
  constructor
  · rw [List.all_eq_true]
    intro x hx
    have := h.mem x hx
    rw [inB_iff]; omega
  · exact (nodupB_iff l).2 h.nd
theorem GrD.lexAt {m : Nat} {R : Nat → Nat} {l : List Int} (h : GrD m R l) (ho : Ord m l) {i : Nat} (h1 : 1 ≤ i) (hi : i < l.length) : Go.Proofs.Ytilfniehellmmaa.lexAt R l i = true := by
  unfold Go.Proofs.Ytilfniehellmmaa.lexAt
  rw [allB_iff]
  intro j hj
  have hk : i + 1 + j < l.length := by omega
  have hx := ho.mem _ (getD_mem hk)
  obtain ⟨u, hu⟩ : ∃ u : Nat, l.getD (i + 1 + j) 0 = (u : Int) := ⟨(l.getD (i + 1 + j) 0).toNat, by omega⟩
  have hc : (l.take i).contains (u : Int) = false := by
    rw [← Bool.not_eq_true, List.contains_iff_mem]
    intro hm
    obtain ⟨t, ht, e⟩ := List.mem_iff_getElem.1 hm
    rw [List.getElem_take] at e
    have ht2 : t < i := by simp at ht; omega
    have hne := List.pairwise_iff_getElem.1 ho.nd t (i + 1 + j) (by omega) hk (by omega)
    apply hne
    rw [e, ← hu]
    simp [hk]
  have := h i h1 hi u (by omega) hc
  rw [hu, Int.toNat_natCast, Bool.not_eq_true', decide_eq_false_iff_not]
  omega

/-! ### walks, and orders by breadth -/

/-- w lies within k steps of v. -/
def In (R : Nat → Nat) (v k w : Nat) : Prop := (gr R (2 ^ v) k).testBit w = true
theorem In_zero {R : Nat → Nat} {v w : Nat} : In R v 0 w ↔ v = w := by
  unfold In gr
  rw [Nat.testBit_two_pow]
  simp
theorem In_succ {m : Nat} {R : Nat → Nat} (g : VG m R) {v : Nat} (hv : v < m) (k w : Nat) : In R v (k + 1) w ↔ In R v k w ∨ ∃ p, p < m ∧ In R v k p ∧ (R p).testBit w = true := arnd_bit (gr_lt g (Nat.pow_lt_pow_right (by decide) hv) k) g.n7 w
theorem In_lt {m : Nat} {R : Nat → Nat} (g : VG m R) {v : Nat} (hv : v < m) {k w : Nat} (h : In R v k w) : w < m := bit_lt (gr_lt g (Nat.pow_lt_pow_right (by decide) hv) k) h
theorem In_mono {m : Nat} {R : Nat → Nat} (g : VG m R) {v : Nat} (hv : v < m) {w : Nat} : ∀ {k j : Nat}, k ≤ j → In R v k w → In R v j w := by
  intro k j hkj h
  obtain ⟨d, rfl⟩ : ∃ d, j = k + d := ⟨j - k, by omega⟩
  clear hkj
  induction d with
  | zero => exact h
  | succ d ih => exact (In_succ g hv (k + d) w).2 (.inl ih)
theorem In_front {m : Nat} {R : Nat → Nat} (g : VG m R) {w p : Nat} (hw : w < m) (hp : p < m) (h : (R w).testBit p = true) : ∀ (k v : Nat), In R p k v → In R w (k + 1) v
  | 0, v, hv => by
    rw [In_zero] at hv
    subst hv
    exact (In_succ g hw 0 p).2 (.inr ⟨w, hw, In_zero.2 rfl, h⟩)
  | k + 1, v, hv => by
    rcases (In_succ g hp k v).1 hv with h1 | ⟨q, hq, h1, h2⟩
    · exact In_mono g hw (by omega) (In_front g hw hp h k v h1)
    · exact (In_succ g hw (k + 1) v).2 (.inr ⟨q, hq, In_front g hw hp h k q h1, h2⟩)
theorem In_symm {m : Nat} {R : Nat → Nat} (g : VG m R) {v : Nat} (hv : v < m) : ∀ (k w : Nat), In R v k w → In R w k v
  | 0, w, h => by rw [In_zero] at h ⊢; exact h.symm
  | k + 1, w, h => by
    have hw := In_lt g hv h
    rcases (In_succ g hv k w).1 h with h1 | ⟨p, hp, h1, h2⟩
    · exact In_mono g hw (by omega) (In_symm g hv k w h1)
    · exact In_front g hw hp (by rw [← g.sym p w hp hw]; exact h2) k v (In_symm g hv k p h1)
theorem dist_symm {m : Nat} {R : Nat → Nat} (g : VG m R) {v w : Nat} (hv : v < m) (hw : w < m) {r : Int} (h : distOf R v w r) : distOf R w v r := by
  have nf : ∀ k, (gr R (2 ^ v) k).testBit w = false → (gr R (2 ^ w) k).testBit v = false := fun k hk => by
    rw [← Bool.not_eq_true]
    intro h2
    have := In_symm g hw k v h2
    unfold In at this
    rw [hk] at this; cases this
  rcases h with ⟨k, rfl, h1, h2⟩ | ⟨rfl, h1⟩
  · exact .inl ⟨k, rfl, In_symm g hv k w h1, fun j hj => nf j (h2 j hj)⟩
  · exact .inr ⟨rfl, fun k => nf k (h1 k)⟩
theorem dist_one {m : Nat} {R : Nat → Nat} (g : VG m R) {v w : Nat} (hv : v < m) (h : distOf R v w 1) : (R v).testBit w = true := by
  rcases h with ⟨k, hk, h1, h2⟩ | ⟨h, _⟩
  · have : k = 1 := by omega
    subst this
    rcases (In_succ g hv 0 w).1 h1 with h3 | ⟨p, hp, h3, h4⟩
    · have := h2 0 (by omega)
      unfold In at h3
      rw [h3] at this; cases this
    · rw [In_zero] at h3
      subst h3
      exact h4
  · omega

/-- What holds of an order by breadth of which the first i are done. -/
structure Bfs (m : Nat) (R : Nat → Nat) (v : Nat) (l : List Int) (i : Nat) : Prop where
  ord : Ord m l
  hd : (v : Int) ∈ l
  rch : ∀ u : Nat, (u : Int) ∈ l → ∃ k, In R v k u
  dn : ∀ j, j < i → j < l.length → ∀ u : Nat, u < m → (R (l.getD j 0).toNat).testBit u = true → (u : Int) ∈ l
  inc : ∀ a b, a < b → b < l.length → ∀ k, In R v k (l.getD b 0).toNat → In R v k (l.getD a 0).toNat
  nr : i < l.length → ∀ x, x ∈ l → ∀ k, In R v k (l.getD i 0).toNat → In R v (k + 1) x.toNat
theorem Bfs.one {m : Nat} {R : Nat → Nat} {v : Nat} (g : VG m R) (hv : v < m) (ho : Ord m [(v : Int)]) : Bfs m R v [(v : Int)] 0 := by
  refine ⟨ho, by simp, ?_, ?_, ?_, ?_⟩
  · intro u hu
    simp at hu
    exact ⟨0, In_zero.2 (by omega)⟩
  · intro j hj; omega
  · intro a b h1 h2
    simp at h2
    omega
  · intro _ x hx k hk
    simp at hx
    subst hx
    simp at hk ⊢
    exact In_mono g hv (by omega) hk
/-- All that lie no farther than the one at hand are in the list. -/
theorem Bfs.near {m : Nat} {R : Nat → Nat} {v : Nat} {l : List Int} {i : Nat} (g : VG m R) (hv : v < m) (h : Bfs m R v l i) (hi : i < l.length) : ∀ k, (∀ j, j < k → ¬ In R v j (l.getD i 0).toNat) → ∀ u, In R v k u → (u : Int) ∈ l
  | 0, _, u, hu => by
    rw [In_zero] at hu
    subst hu
    exact h.hd
  | k + 1, hk, u, hu => by
    rcases (In_succ g hv k u).1 hu with h1 | ⟨p, hp, h1, h2⟩
    · exact Bfs.near g hv h hi k (fun j hj => hk j (by omega)) u h1
    · have hpl := Bfs.near g hv h hi k (fun j hj => hk j (by omega)) p h1
      obtain ⟨t, ht, e⟩ := List.mem_iff_getElem.1 hpl
      have ep : (l.getD t 0).toNat = p := by
        have : l.getD t 0 = l[t] := by simp [ht]
        rw [this, e, Int.toNat_natCast]
      have hti : t < i := by
        rcases Nat.lt_trichotomy t i with q | q | q
        · exact q
        · exfalso
          subst q
          exact hk k (by omega) (by rw [ep]; exact h1)
        · exfalso
          exact hk k (by omega) (h.inc i t q ht k (by rw [ep]; exact h1))
      have hu2 := In_lt g hv hu
      exact h.dn t hti ht u hu2 (by rw [ep]; exact h2)
/-- One more. -/
theorem Bfs.add {m : Nat} {R : Nat → Nat} {v : Nat} {l : List Int} {i a u : Nat} (g : VG m R) (hv : v < m) (h : Bfs m R v l i) (hi : i < l.length) (ha : l.getD i 0 = (a : Int)) (ham : a < m) (hu : u < m) (hb : (R a).testBit u = true) (hc : l.contains (u : Int) = false) : Bfs m R v (l ++ [(u : Int)]) i := by
  have h7 := g.n7
  have hnl : ¬ (u : Int) ∈ l := by
    intro hm
    rw [List.contains_iff_mem.2 hm] at hc
    cases hc
  have han : (l.getD i 0).toNat = a := by rw [ha, Int.toNat_natCast]
  have hal : (a : Int) ∈ l := by rw [← ha]; exact getD_mem hi
  have hstep : ∀ k, In R v k a → In R v (k + 1) u := fun k hk => (In_succ g hv k u).2 (.inr ⟨a, ham, hk, hb⟩)
  have hlast : ∀ x, x ∈ l → ∀ k, In R v k u → In R v k x.toNat := by
    intro x hx k hk
    cases k with
    | zero =>
      exfalso
      exact hnl (Bfs.near g hv h hi 0 (fun j hj => by omega) u hk)
    | succ k =>
      by_cases hin : In R v k a
      · exact h.nr hi x hx k (by rw [han]; exact hin)
      · exfalso
        exact hnl (Bfs.near g hv h hi (k + 1) (fun j hj hj2 => hin (In_mono g hv (Nat.le_of_lt_succ hj) (by rw [han] at hj2; exact hj2))) u hk)
  have old : ∀ j, j < l.length → (l ++ [(u : Int)]).getD j 0 = l.getD j 0 := fun j hj => by simp [List.getElem?_append, hj]
  have new : (l ++ [(u : Int)]).getD l.length 0 = (u : Int) := by simp
  have hlen : (l ++ [(u : Int)]).length = l.length + 1 := by simp
  refine ⟨(h.ord.snoc h7 hu hc (h.ord.room h7 hu hc)).1, List.mem_append.2 (.inl h.hd), ?_, ?_, ?_, ?_⟩
  · intro w hw
    rw [List.mem_append, List.mem_singleton] at hw
    rcases hw with hw | hw
    · exact h.rch w hw
    · have : w = u := by omega
      subst this
      obtain ⟨k, hk⟩ := h.rch a hal
      exact ⟨k + 1, hstep k hk⟩
  · intro j hj hjl w hw hbw
    rw [old j (by omega)] at hbw
    exact List.mem_append.2 (.inl (h.dn j hj (by omega) w hw hbw))
  · intro p q hpq hq k hk
    rw [hlen] at hq
    by_cases e : q = l.length
    · subst e
      rw [new, Int.toNat_natCast] at hk
      rw [old p hpq]
      exact hlast _ (getD_mem hpq) k hk
    · rw [old q (by omega)] at hk
      rw [old p (by omega)]
      exact h.inc p q hpq (by omega) k hk
  · intro _ x hx k hk
    rw [old i hi] at hk
    rw [List.mem_append, List.mem_singleton] at hx
    rcases hx with hx | hx
    · exact h.nr hi x hx k hk
    · subst hx
      rw [Int.toNat_natCast]
      exact hstep k (by rw [han] at hk; exact hk)
theorem Bfs.row {m : Nat} {R : Nat → Nat} {v : Nat} {l : List Int} {i a : Nat} (g : VG m R) (hv : v < m) (h : Bfs m R v l i) (hi : i < l.length) (ha : l.getD i 0 = (a : Int)) (ham : a < m) : ∀ k, k ≤ m → Bfs m R v (bro (R a).testBit l k) i ∧ (∃ t, bro (R a).testBit l k = l ++ t) ∧ ∀ u, u < k → (R a).testBit u = true → (u : Int) ∈ bro (R a).testBit l k
  | 0, _ => ⟨h, ⟨[], by simp [bro]⟩, fun u hu => by omega⟩
  | k + 1, hk => by
    obtain ⟨ih, ⟨t, ht⟩, ih2⟩ := Bfs.row g hv h hi ha ham k (by omega)
    have hi2 : i < (bro (R a).testBit l k).length := by rw [ht]; simp; omega
    have ha2 : (bro (R a).testBit l k).getD i 0 = (a : Int) := by
      rw [ht, ← ha]
      simp [List.getElem?_append, hi]
    unfold bro
    by_cases hc : ((R a).testBit k && !((bro (R a).testBit l k).contains (k : Int))) = true
    · rw [if_pos hc]
      rw [Bool.and_eq_true] at hc
      have hc2 : (bro (R a).testBit l k).contains (k : Int) = false := by simpa using hc.2
      refine ⟨Bfs.add g hv ih hi2 ha2 ham (by omega) hc.1 hc2, ⟨t ++ [(k : Int)], by rw [ht, List.append_assoc]⟩, ?_⟩
      intro u hu hb
      rw [List.mem_append, List.mem_singleton]
      by_cases e : u = k
      · right; rw [e]
      · left; exact ih2 u (by omega) hb
    · rw [if_neg hc]
      refine ⟨ih, ⟨t, ht⟩, ?_⟩
      intro u hu hb
      by_cases e : u = k
      · subst e
        rw [hb, Bool.true_and] at hc
        have : (bro (R a).testBit l u).contains (u : Int) = true := by simpa using hc
        exact List.contains_iff_mem.1 this
      · exact ih2 u (by omega) hb
theorem Bfs.next {m : Nat} {R : Nat → Nat} {v : Nat} {l : List Int} {i a : Nat} (h : Bfs m R v l i) (g : VG m R) (hi : i < l.length) (ha : l.getD i 0 = (a : Int)) (ham : a < m) : Bfs m R v (bro (R a).testBit l m) (i + 1) := by
  have hv : v < m := by
    have := h.ord.mem _ h.hd
    omega
  obtain ⟨b, ⟨t, ht⟩, hall⟩ := Bfs.row g hv h hi ha ham m (Nat.le_refl _)
  have ha2 : (bro (R a).testBit l m).getD i 0 = (a : Int) := by
    rw [ht, ← ha]
    simp [List.getElem?_append, hi]
  refine ⟨b.ord, b.hd, b.rch, ?_, b.inc, ?_⟩
  · intro j hj hjl u hu hb
    by_cases e : j = i
    · subst e
      rw [ha2, Int.toNat_natCast] at hb
      exact hall u hu hb
    · exact b.dn j (by omega) hjl u hu hb
  · intro hi2 x hx k hk
    exact b.nr (by omega) x hx k (b.inc i (i + 1) (by omega) hi2 k hk)
theorem gr_congr {m : Nat} {R S : Nat → Nat} (g : VG m R) (he : ∀ v, v < m → R v = S v) {v : Nat} (hv : v < m) : ∀ k w, In S v k w ↔ In R v k w := by
  intro k
  have hlt : 2 ^ v < 2 ^ m := Nat.pow_lt_pow_right (by decide) hv
  have e : gr S (2 ^ v) k = gr R (2 ^ v) k := by
    induction k with
    | zero => rfl
    | succ k ih =>
      show arnd S (gr S (2 ^ v) k) = arnd R (gr R (2 ^ v) k)
      rw [ih]
      have hg := gr_lt g hlt k
      apply Nat.eq_of_testBit_eq
      intro i
      rw [Bool.eq_iff_iff, arnd_bit hg g.n7, arnd_bit hg g.n7]
      constructor
      · rintro (h | ⟨p, hp, h1, h2⟩)
        · exact .inl h
        · exact .inr ⟨p, hp, h1, by rw [he p hp]; exact h2⟩
      · rintro (h | ⟨p, hp, h1, h2⟩)
        · exact .inl h
        · exact .inr ⟨p, hp, h1, by rw [← he p hp]; exact h2⟩
  intro w
  unfold In
  rw [e]
theorem Bfs.congr {m : Nat} {R S : Nat → Nat} {v : Nat} {l : List Int} {i : Nat} (h : Bfs m R v l i) (g : VG m R) (he : ∀ v, v < m → R v = S v) : Bfs m S v l i := by
  have hv : v < m := by
    have := h.ord.mem _ h.hd
    omega
  have gi := gr_congr g he hv
  refine ⟨h.ord, h.hd, ?_, ?_, ?_, ?_⟩
  · intro u hu
    obtain ⟨k, hk⟩ := h.rch u hu
    exact ⟨k, (gi k u).2 hk⟩
  · intro j hj hjl u hu hb
    have := h.ord.mem _ (getD_mem hjl)
    rw [← he _ (show (l.getD j 0).toNat < m by omega)] at hb
    exact h.dn j hj hjl u hu hb
  · intro a b h1 h2 k hk
    exact (gi k _).2 (h.inc a b h1 h2 k ((gi k _).1 hk))
  · intro hi x hx k hk
    exact (gi _ _).2 (h.nr hi x hx k ((gi k _).1 hk))
/-- A whole order by breadth has all that can be reached. -/
theorem Bfs.all {m : Nat} {R : Nat → Nat} {v : Nat} {l : List Int} (h : Bfs m R v l l.length) (g : VG m R) : ∀ k u, In R v k u → (u : Int) ∈ l := by
  have hv : v < m := by
    have := h.ord.mem _ h.hd
    omega
  intro k
  induction k with
  | zero =>
    intro u hu
    rw [In_zero] at hu
    subst hu
    exact h.hd
  | succ k ih =>
    intro u hu
    have hum := In_lt g hv hu
    rcases (In_succ g hv k u).1 hu with h1 | ⟨p, hp, h1, h2⟩
    · exact ih u h1
    · obtain ⟨t, ht, e⟩ := List.mem_iff_getElem.1 (ih p h1)
      have ep : (l.getD t 0).toNat = p := by
        have : l.getD t 0 = l[t] := by simp [ht]
        rw [this, e, Int.toNat_natCast]
      exact h.dn t ht ht u hum (by rw [ep]; exact h2)
theorem itr_has {R : Nat → Nat} {S u : Nat} (h : 2 ^ u &&& S = 2 ^ u) : ∀ k, (itr R S (2 ^ u) k).testBit u = true
  | 0 => by simp [itr, Nat.testBit_two_pow_self]
  | k + 1 => sub_bit_iff.1 (stp_sup (R := R) (itr_sub (R := R) h k)) u (itr_has h k)

theorem kLexOrder2 (F : Nat) (hF : 2097152 ≤ F) (n : Int) (hn : I64 n) (rows : List Int) (hr : Row64 rows) (st : Int) : ∃ r : List Int × Bool, r.1.length ≤ 7 ∧ S_spec_LexOrder F n rows st = some r ∧ S_impl_LexOrder F n rows st = some r ∧ (r.2 = true ↔ isG n rows = true ∧ 0 ≤ st ∧ st < n) ∧ ∀ (m : Nat) (R : Nat → Nat), n = (m : Int) → rows = rowsOf m R → VG m R → 0 ≤ st → st < n → Ord m r.1 ∧ r.1.length = m ∧ GrD m R r.1 := by
  unfold S_spec_LexOrder S_impl_LexOrder S_impl_greedyOrder__LexOrderc1
  rw [sIsGraph F (by omega) n rows hr, obind, iVertex F (by omega) n hn rows hr _ (by simp; omega) (by simp), obind]
  have hall : [st].all (fun v => inB v 0 (n - 1)) = inB st 0 (n - 1) := by simp
  rw [hall]
  unfold S_spec_LexOrder_j1
  by_cases hc : isG n rows = true ∧ 0 ≤ st ∧ st < n
  · obtain ⟨hG, h0, h1⟩ := hc
    obtain ⟨m, R, rfl, rfl, g⟩ := isG_elim hG
    have h7 := g.n7
    have hp := pow128 h7
    obtain ⟨v, rfl⟩ : ∃ v : Nat, st = v := ⟨st.toNat, by omega⟩
    rw [hG, inB_iff.2 (show (0 : Int) ≤ (v : Int) ∧ (v : Int) ≤ (m : Int) - 1 by omega)]
    rw [if_neg (by simp), if_neg (by simp), if_neg (by simp; omega), nnO_ok (by omega), obind, shL1 (by omega), if_neg (by simp)]
    obtain ⟨o1, b1⟩ := Ord.one (m := m) (v := v) (by omega) h7
    obtain ⟨r, q, e1, e2, rfl, hlen, hord, hgr, hlm⟩ := loop_sim (b1 := fun s : List Int × Int => S_spec_LexOrder_l3 F (m : Int) (rowsOf m R) s.1 s.2) (b2 := fun s : List Int => S_impl_greedyOrder__LexOrderc1_l2 F (m : Int) (m : Int) (rowsOf m R) s)
      (fun a b => a = (b, ((bitsOf b : Nat) : Int)) ∧ Ord m b ∧ GrD m R b) (fun a => m - a.1.length) (fun a b => a = b ∧ a.length ≤ 7 ∧ Ord m a ∧ GrD m R a ∧ a.length = m)
      (by
        rintro _ l ⟨rfl, ho, hg⟩
        unfold S_spec_LexOrder_l3 S_impl_greedyOrder__LexOrderc1_l2
        dsimp only
        by_cases hlt : l.length < m
        · left
          rw [if_pos (by simp; omega), if_pos (by simp; omega), sLexBest F (by omega) g ho, obind, iLexBest F (by omega) g ho, obind]
          cases hb : bst (avl l) (lab R l) m with
          | none =>
            obtain ⟨u, hu, ha⟩ := ho.free h7 hlt
            have := bst_none _ _ _ hb u hu
            unfold avl at this
            rw [this] at ha
            cases ha
          | some u =>
            obtain ⟨hu, hau⟩ := bst_in _ _ _ _ hb
            unfold avl at hau
            have hcu : l.contains (u : Int) = false := by simpa using hau
            obtain ⟨o2, e2⟩ := ho.snoc h7 hu hcu hlt
            have hlt2 := o2.lt h7
            unfold S_spec_LexOrder_j4 S_impl_greedyOrder__LexOrderc1_j3 bestI
            dsimp only
            rw [catO_ok (by simp; omega), obind, obind, nnO_ok (by omega), obind, shL1 (by omega)]
            rw [e2] at hlt2
            have e3 : IntKind.i64.wrap (((bitsOf l : Nat) : Int) + ((2 ^ u : Nat) : Int)) = ((bitsOf (l ++ [(u : Int)]) : Nat) : Int) := by
              rw [e2]
              generalize 2 ^ u = q at *
              rw [w64 (by omega) (by omega)]; simp
            rw [e3]
            exact ⟨_, _, rfl, rfl, ⟨rfl, o2, hg.snoc (bst_max _ _ _ _ hb)⟩, by simp; omega⟩
        · right
          rw [if_neg (by simp; omega), if_neg (by simp; omega)]
          have hlo := ho.len
          exact ⟨_, _, rfl, rfl, rfl, by omega, ho, hg, by omega⟩)
      F ([(v : Int)], ((2 ^ v : Nat) : Int)) [(v : Int)] ⟨by rw [b1], o1, GrD.one _⟩ (by simp; omega)
    rw [e1, e2, obind, obind]
    refine ⟨(r, true), hlen, rfl, rfl, ⟨fun _ => ⟨rfl, by omega, by omega⟩, fun _ => rfl⟩, ?_⟩
    intro m2 R2 hm hR _ _ _
    have : m2 = m := by omega
    subst this
    exact ⟨hord, hlm, hgr.congr g (fun v hv => rowsOf_inj hR hv) hord⟩
  · refine ⟨([], false), by simp, ?_, ?_, ⟨(fun h => by cases h), fun h => absurd h hc⟩, fun m R hm hR g h0 h1 => absurd ⟨by rw [hm, hR]; exact isG_intro g, h0, h1⟩ hc⟩
    · cases hG : isG n rows with
      | false => rfl
      | true =>
        rw [if_neg (by simp)]
        by_cases a1 : st < 0
        · rw [if_pos (by simpa using a1), if_pos rfl]
        rw [if_neg (by simpa using a1)]
        have a2 : n ≤ st := by
          rw [hG] at hc
          simp only [true_and, not_and] at hc
          omega
        rw [if_pos (by simpa using a2)]
    · have : (isG n rows && inB st 0 (n - 1)) = false := by
        rw [← Bool.not_eq_true, Bool.and_eq_true, inB_iff]
        intro ⟨h1, h2, h3⟩
        exact hc ⟨h1, h2, by omega⟩
      rw [this]
      rfl

theorem kCardinalityOrder2 (F : Nat) (hF : 2097152 ≤ F) (n : Int) (hn : I64 n) (rows : List Int) (hr : Row64 rows) (st : Int) : ∃ r : List Int × Bool, r.1.length ≤ 7 ∧ S_spec_CardinalityOrder F n rows st = some r ∧ S_impl_CardinalityOrder F n rows st = some r ∧ ∀ (m : Nat) (R : Nat → Nat), n = (m : Int) → rows = rowsOf m R → VG m R → 0 ≤ st → st < n → Ord m r.1 ∧ r.1.length = m := by
  unfold S_spec_CardinalityOrder S_impl_CardinalityOrder S_impl_greedyOrder__CardinalityOrderc1
  rw [sIsGraph F (by omega) n rows hr, obind, iVertex F (by omega) n hn rows hr _ (by simp; omega) (by simp), obind]
  have hall : [st].all (fun v => inB v 0 (n - 1)) = inB st 0 (n - 1) := by simp
  rw [hall]
  unfold S_spec_CardinalityOrder_j1
  by_cases hc : isG n rows = true ∧ 0 ≤ st ∧ st < n
  · obtain ⟨hG, h0, h1⟩ := hc
    obtain ⟨m, R, rfl, rfl, g⟩ := isG_elim hG
    have h7 := g.n7
    have hp := pow128 h7
    obtain ⟨v, rfl⟩ : ∃ v : Nat, st = v := ⟨st.toNat, by omega⟩
    rw [hG, inB_iff.2 (show (0 : Int) ≤ (v : Int) ∧ (v : Int) ≤ (m : Int) - 1 by omega)]
    rw [if_neg (by simp), if_neg (by simp), if_neg (by simp; omega), nnO_ok (by omega), obind, shL1 (by omega), if_neg (by simp)]
    obtain ⟨o1, b1⟩ := Ord.one (m := m) (v := v) (by omega) h7
    obtain ⟨r, q, e1, e2, rfl, hlen, hord, hlm⟩ := loop_sim (b1 := fun s : List Int × Int => S_spec_CardinalityOrder_l3 F (m : Int) (rowsOf m R) s.1 s.2) (b2 := fun s : List Int => S_impl_greedyOrder__CardinalityOrderc1_l2 F (m : Int) (m : Int) (rowsOf m R) s)
      (fun a b => a = (b, ((bitsOf b : Nat) : Int)) ∧ Ord m b) (fun a => m - a.1.length) (fun a b => a = b ∧ a.length ≤ 7 ∧ Ord m a ∧ a.length = m)
      (by
        rintro _ l ⟨rfl, ho⟩
        unfold S_spec_CardinalityOrder_l3 S_impl_greedyOrder__CardinalityOrderc1_l2
        dsimp only
        by_cases hlt : l.length < m
        · left
          rw [if_pos (by simp; omega), if_pos (by simp; omega), sCardBest F (by omega) g ho, obind, iCardBest F (by omega) g ho, obind]
          cases hb : bst (avl l) (crd R l) m with
          | none =>
            obtain ⟨u, hu, ha⟩ := ho.free h7 hlt
            have := bst_none _ _ _ hb u hu
            unfold avl at this
            rw [this] at ha
            cases ha
          | some u =>
            obtain ⟨hu, hau⟩ := bst_in _ _ _ _ hb
            unfold avl at hau
            have hcu : l.contains (u : Int) = false := by simpa using hau
            obtain ⟨o2, e2⟩ := ho.snoc h7 hu hcu hlt
            have hlt2 := o2.lt h7
            unfold S_spec_CardinalityOrder_j4 S_impl_greedyOrder__CardinalityOrderc1_j3 bestI
            dsimp only
            rw [catO_ok (by simp; omega), obind, obind, nnO_ok (by omega), obind, shL1 (by omega)]
            rw [e2] at hlt2
            have e3 : IntKind.i64.wrap (((bitsOf l : Nat) : Int) + ((2 ^ u : Nat) : Int)) = ((bitsOf (l ++ [(u : Int)]) : Nat) : Int) := by
              rw [e2]
              generalize 2 ^ u = q at *
              rw [w64 (by omega) (by omega)]; simp
            rw [e3]
            exact ⟨_, _, rfl, rfl, ⟨rfl, o2⟩, by simp; omega⟩
        · right
          rw [if_neg (by simp; omega), if_neg (by simp; omega)]
          have hlo := ho.len
          exact ⟨_, _, rfl, rfl, rfl, by omega, ho, by omega⟩)
      F ([(v : Int)], ((2 ^ v : Nat) : Int)) [(v : Int)] ⟨by rw [b1], o1⟩ (by simp; omega)
    rw [e1, e2, obind, obind]
    refine ⟨(r, true), hlen, rfl, rfl, ?_⟩
    intro m2 R2 hm hR _ _ _
    have : m2 = m := by omega
    subst this
    exact ⟨hord, hlm⟩
  · refine ⟨([], false), by simp, ?_, ?_, fun m R hm hR g h0 h1 => absurd ⟨by rw [hm, hR]; exact isG_intro g, h0, h1⟩ hc⟩
    · cases hG : isG n rows with
      | false => rfl
      | true =>
        rw [if_neg (by simp)]
        by_cases a1 : st < 0
        · rw [if_pos (by simpa using a1), if_pos rfl]
        rw [if_neg (by simpa using a1)]
        have a2 : n ≤ st := by
          rw [hG] at hc
          simp only [true_and, not_and] at hc
          omega
        rw [if_pos (by simpa using a2)]
    · have : (isG n rows && inB st 0 (n - 1)) = false := by
        rw [← Bool.not_eq_true, Bool.and_eq_true, inB_iff]
        intro ⟨h1, h2, h3⟩
        exact hc ⟨h1, h2, by omega⟩
      rw [this]
      rfl

theorem kBreadthOrder2 (F : Nat) (hF : 2097152 ≤ F) (n : Int) (hn : I64 n) (rows : List Int) (hr : Row64 rows) (st : Int) : ∃ r : List Int × Bool, r.1.length ≤ 7 ∧ S_spec_BreadthOrder F n rows st = some r ∧ S_impl_BreadthOrder F n rows st = some r ∧ (r.2 = true ↔ isG n rows = true ∧ 0 ≤ st ∧ st < n) ∧ (r.2 = false → r.1 = []) ∧ ∀ (m v : Nat) (R : Nat → Nat), n = (m : Int) → rows = rowsOf m R → VG m R → st = (v : Int) → v < m → Bfs m R v r.1 r.1.length := by
  unfold S_spec_BreadthOrder S_impl_BreadthOrder
  rw [sIsGraph F (by omega) n rows hr, obind, iVertex F (by omega) n hn rows hr _ (by simp; omega) (by simp), obind]
  have hall : [st].all (fun v => inB v 0 (n - 1)) = inB st 0 (n - 1) := by simp
  rw [hall]
  unfold S_spec_BreadthOrder_j1
  by_cases hc : isG n rows = true ∧ 0 ≤ st ∧ st < n
  · obtain ⟨hG, h0, h1⟩ := hc
    obtain ⟨m, R, rfl, rfl, g⟩ := isG_elim hG
    have h7 := g.n7
    have hp := pow128 h7
    obtain ⟨v, rfl⟩ : ∃ v : Nat, st = v := ⟨st.toNat, by omega⟩
    rw [hG, inB_iff.2 (show (0 : Int) ≤ (v : Int) ∧ (v : Int) ≤ (m : Int) - 1 by omega)]
    rw [if_neg (by simp), if_neg (by simp), if_neg (by simp; omega), nnO_ok (by omega), obind, shL1 (by omega), if_neg (by simp)]
    obtain ⟨o1, b1⟩ := Ord.one (m := m) (v := v) (by omega) h7
    obtain ⟨r, q, e1, e2, rfl, hlen, hbf⟩ := loop_sim (b1 := fun s : List Int × Int × Int => S_spec_BreadthOrder_l3 F (m : Int) (rowsOf m R) s.1 s.2.1 s.2.2) (b2 := fun s : List Int × Int => S_impl_BreadthOrder_l2 F (rowsOf m R) s.1 s.2)
      (fun a b => ∃ (l : List Int) (i : Nat), a = (l, ((bitsOf l : Nat) : Int), (i : Int)) ∧ b = (l, (i : Int)) ∧ Ord m l ∧ i ≤ l.length ∧ Bfs m R v l i) (fun a => m - a.2.2.toNat) (fun a b => a = b ∧ a.length ≤ 7 ∧ Bfs m R v a a.length)
      (by
        rintro _ _ ⟨l, i, rfl, rfl, ho, hil, hbf⟩
        have hol := ho.len
        unfold S_spec_BreadthOrder_l3 S_impl_BreadthOrder_l2
        dsimp only
        by_cases hlt : i < l.length
        · left
          have hx := ho.mem _ (getD_mem hlt)
          obtain ⟨a, ha⟩ : ∃ a : Nat, l.getD i 0 = (a : Int) := ⟨(l.getD i 0).toNat, by omega⟩
          have ham : a < m := by omega
          have hba := g.b128 ham
          rw [if_pos (by simp; omega), if_pos (by simp; omega), idxL_getD hlt, obind, ha, rowsOf_idx ham, obind, iListOf F (by omega) _ (by unfold I64; omega), obind, listN_nat (g.lt a ham) h7]
          -- the reference's inner loop
          have hs : loopN (σ := List Int × Int × Int) (β := List Int × Int) (fun s => S_spec_BreadthOrder_l5 F (m : Int) (rowsOf m R) (i : Int) s.1 s.2.1 s.2.2) F (l, ((bitsOf l : Nat) : Int), 0) = some (bro (R a).testBit l m, ((bitsOf (bro (R a).testBit l m) : Nat) : Int)) := by
            rw [show (l, ((bitsOf l : Nat) : Int), (0 : Int)) = (fun k : Nat => (bro (R a).testBit l k, ((bitsOf (bro (R a).testBit l k) : Nat) : Int), (k : Int))) 0 from rfl]
            rw [loop_from0 (fun k : Nat => (bro (R a).testBit l k, ((bitsOf (bro (R a).testBit l k) : Nat) : Int), (k : Int))) (bro (R a).testBit l m, ((bitsOf (bro (R a).testBit l m) : Nat) : Int)) m ?_ ?_ (by omega)]
            · intro k hk
              have hok := bro_ord (q := (R a).testBit) ho h7 k (by omega)
              have hlk := hok.lt h7
              obtain ⟨t, ht⟩ := bro_pre (R a).testBit l k
              have hget : idxL (bro (R a).testBit l k) (i : Int) = some (a : Int) := by
                rw [ht, idxL_getD (by simp; omega)]
                congr 1
                rw [← ha]
                simp [List.getElem?_append, hlt]
              have hbs : bro (R a).testBit l (k + 1) = if ((R a).testBit k && !((bro (R a).testBit l k).contains (k : Int))) = true then bro (R a).testBit l k ++ [(k : Int)] else bro (R a).testBit l k := rfl
              unfold S_spec_BreadthOrder_l5
              dsimp only
              rw [if_pos (by simp; omega), nnO_ok (by omega), obind, bit_nat0 (by omega) (by omega), hok.bit h7 hk, hbs]
              unfold S_spec_BreadthOrder_j7 S_spec_BreadthOrder_j6
              rw [w64 (n := (k : Int) + 1) (by omega) (by omega)]
              have hll := hok.len
              cases hcc : (bro (R a).testBit l k).contains (k : Int) with
              | true => simp
              | false =>
                rw [if_pos (by simp), hget, obind, sEdge F g ham (by omega), obind]
                cases hbb : (R a).testBit k with
                | false => simp
                | true =>
                  obtain ⟨o2, e2⟩ := hok.snoc h7 hk hcc (hok.room h7 hk hcc)
                  have hl2 := o2.lt h7
                  rw [e2] at hl2
                  rw [if_pos rfl, catO_ok (by simp; omega), obind, nnO_ok (by omega), obind, shL1 (by omega), if_pos (by simp), e2]
                  generalize 2 ^ k = y at *
                  rw [w64 (by omega) (by omega)]
                  simp
            · unfold S_spec_BreadthOrder_l5
              dsimp only
              rw [if_neg (by simp)]
          -- the program's inner loop
          have hi := loop_list (body := fun s : List Int × Int => S_impl_BreadthOrder_l4 F (selN 7 (R a).testBit) s.1 s.2) (selN 7 (R a).testBit) (fun (o : List Int) k => (o, k)) addI (fun o => Ord m o) (fun o => o) (F := F)
            (by
              intro k hk o hoo
              obtain ⟨u, hu7, hu, e⟩ := mem_selN.1 (List.getElem_mem hk)
              have hum := bit_lt (g.lt a ham) hu
              have hol2 := hoo.len
              have hsl := selN_len 7 (R a).testBit
              unfold S_impl_BreadthOrder_l4 S_impl_BreadthOrder_j5
              dsimp only
              rw [if_pos (by simpa using hk), idxL_get hk, obind, e, idxContains F o _ (by omega) (by omega), obind, w64 (by omega) (by omega)]
              unfold addI
              cases hcc : o.contains (u : Int) with
              | true =>
                rw [if_neg (by simp), if_pos rfl]
                exact ⟨rfl, hoo⟩
              | false =>
                rw [if_pos (by simp), if_neg (by simp), catO_ok (by simp; omega), obind]
                exact ⟨rfl, (hoo.snoc h7 hum hcc (hoo.room h7 hum hcc)).1⟩)
            (by
              intro o hoo
              unfold S_impl_BreadthOrder_l4
              simp)
            l ho (by have := selN_len 7 (R a).testBit; omega)
          have hi1 := hi.1
          rw [bro_fold] at hi1
          have hmore := bro_more (q := (R a).testBit) (l := l) (m := m) (fun u hu => bit_ge (g.lt a ham) hu) (7 - m)
          rw [show m + (7 - m) = 7 by omega] at hmore
          rw [hmore] at hi1
          rw [hs, obind, hi1, obind]
          unfold S_spec_BreadthOrder_j4 S_impl_BreadthOrder_j3
          rw [w64 (by omega) (by omega)]
          have hoo := bro_ord (q := (R a).testBit) ho h7 m (by omega)
          obtain ⟨t, ht⟩ := bro_pre (R a).testBit l m
          refine ⟨_, _, rfl, rfl, ⟨_, i + 1, rfl, rfl, hoo, ?_, hbf.next g hlt ha ham⟩, by dsimp only; omega⟩
          rw [ht, List.length_append]
          omega
        · right
          rw [if_neg (by simp; omega), if_neg (by simp; omega)]
          have : i = l.length := by omega
          rw [this] at hbf
          exact ⟨_, _, rfl, rfl, rfl, by omega, hbf⟩)
      F ([(v : Int)], ((2 ^ v : Nat) : Int), 0) ([(v : Int)], 0) ⟨[(v : Int)], 0, by rw [b1]; rfl, rfl, o1, by simp, Bfs.one g (by omega) o1⟩ (by dsimp only; omega)
    rw [e1, e2, obind, obind]
    refine ⟨(r, true), hlen, rfl, rfl, ⟨fun _ => ⟨rfl, by omega, by omega⟩, fun _ => rfl⟩, (fun h => by cases h), ?_⟩
    intro m2 v2 R2 hm hR g2 hv hv2
    have : m2 = m := by omega
    subst this
    have : v2 = v := by omega
    subst this
    exact hbf.congr g (fun u hu => rowsOf_inj hR hu)
  · refine ⟨([], false), by simp, ?_, ?_, ⟨(fun h => by cases h), fun h => absurd h hc⟩, fun _ => rfl, fun m v R hm hR g hv hv2 => absurd ⟨by rw [hm, hR]; exact isG_intro g, by omega, by omega⟩ hc⟩
    · cases hG : isG n rows with
      | false => rfl
      | true =>
        rw [if_neg (by simp)]
        by_cases a1 : st < 0
        · rw [if_pos (by simpa using a1), if_pos rfl]
        rw [if_neg (by simpa using a1)]
        have a2 : n ≤ st := by
          rw [hG] at hc
          simp only [true_and, not_and] at hc
          omega
        rw [if_pos (by simpa using a2)]
    · have : (isG n rows && inB st 0 (n - 1)) = false := by
        rw [← Bool.not_eq_true, Bool.and_eq_true, inB_iff]
        intro ⟨h1, h2, h3⟩
        exact hc ⟨h1, h2, by omega⟩
      rw [this]
      rfl

theorem kParts3 (F : Nat) (hF : 2097152 ≤ F) {m : Nat} {R : Nat → Nat} (g : VG m R) {S : Nat} (hS : S < 2 ^ m) : ∃ r : List Int, r.length ≤ 7 ∧ S_spec_PartsOf F (m : Int) (rowsOf m R) (S : Int) = some r ∧ S_impl_parts F (m : Int) (rowsOf m R) (S : Int) = some r ∧ (∀ x, x ∈ r → ∃ c u : Nat, x = (c : Int) ∧ c < 2 ^ m ∧ stp R S c = c ∧ u < m ∧ c = itr R S (2 ^ u) m ∧ c.testBit u = true) ∧ r.sum = (S : Int) := by
  unfold S_spec_PartsOf S_impl_parts
  have h7 := g.n7
  have hp := pow128 h7
  obtain ⟨r, q, e1, e2, rfl, hlen, hgd, hsum⟩ := loop_sim (b1 := fun s : List Int × Int => S_spec_PartsOf_l2 F (m : Int) (rowsOf m R) (S : Int) s.1 s.2) (b2 := fun s : Int × List Int => S_impl_parts_l2 F (m : Int) (rowsOf m R) s.1 s.2)
    (fun a b => ∃ (l : List Int) (z : Nat), a = (l, (z : Int)) ∧ b = ((z : Int), l) ∧ Cut m R S z ∧ l.length + pc z ≤ 7 ∧ (∀ x, x ∈ l → ∃ c u : Nat, x = (c : Int) ∧ c < 2 ^ m ∧ stp R S c = c ∧ u < m ∧ c = itr R S (2 ^ u) m ∧ c.testBit u = true) ∧ l.sum + (z : Int) = (S : Int)) (fun a => a.2.toNat) (fun a b => a = b ∧ a.length ≤ 7 ∧ (∀ x, x ∈ a → ∃ c u : Nat, x = (c : Int) ∧ c < 2 ^ m ∧ stp R S c = c ∧ u < m ∧ c = itr R S (2 ^ u) m ∧ c.testBit u = true) ∧ a.sum = (S : Int))
    (by
      rintro _ _ ⟨l, z, rfl, rfl, hc, hlen, hgd, hsum⟩
      have hz : z < 2 ^ m := by rw [← hc.1]; exact Nat.lt_of_le_of_lt Nat.and_le_right hS
      unfold S_spec_PartsOf_l2 S_impl_parts_l2 S_spec_PartsOf_j3
      dsimp only
      by_cases h0 : z = 0
      · right
        subst h0
        rw [if_neg (by simp), if_neg (by simp), if_neg (by simp)]
        exact ⟨_, _, rfl, rfl, rfl, by omega, hgd, by clear hgd; omega⟩
      · left
        obtain ⟨w1, w2, w3, w4, w5⟩ := low_all z (by omega) h0
        have hv64 := pow_le64 _ w4
        have hvS : 2 ^ lowV z &&& S = 2 ^ lowV z := by
          rw [sub_bit_iff] at w5 ⊢
          exact fun i hi => sub_bit_iff.1 hc.1 i (w5 i hi)
        have hne : (2 : Nat) ^ lowV z ≠ 0 := Nat.pos_iff_ne_zero.1 (Nat.pow_pos (by decide))
        have hC := itr_lt (R := R) hS hvS m
        have hcl : stp R S (itr R S (2 ^ lowV z) m) = itr R S (2 ^ lowV z) m := itr_end h7 hS hvS hne
        have hcut := itr_cut h7 hS hc w5 m
        have hCz : itr R S (2 ^ lowV z) m &&& z = itr R S (2 ^ lowV z) m := by
          rw [hcut]; exact itr_sub w5 m
        have hne0 : itr R S (2 ^ lowV z) m ≠ 0 := by
          intro e
          have hle : ∀ k, 2 ^ lowV z &&& itr R S (2 ^ lowV z) k = 2 ^ lowV z := by
            intro k
            induction k with
            | zero => exact Nat.and_self _
            | succ k ih =>
              rw [sub_bit_iff] at ih ⊢
              intro i hi
              exact sub_bit_iff.1 (stp_sup (R := R) (itr_sub (R := R) hvS k)) i (ih i hi)
          have := hle m
          rw [e, Nat.and_zero] at this
          exact hne this.symm
        obtain ⟨d1, d2, d3⟩ := ndiff_sub_eq z (by omega) _ (show itr R S (2 ^ lowV z) m < 128 by omega) hCz
        have hcn := cut_next g hS hc hC hCz hcl
        have hnd : ndiff z (itr R S (2 ^ lowV z) m) < 2 ^ m := ndiff_lt hz
        have hpc : pc (ndiff z (itr R S (2 ^ lowV z) m)) < pc z := pc_lt _ (by omega) _ (by omega) d3 (ndiff_ne z (by omega) _ (by omega) hCz hne0)
        have hi0 := idxL_getD w2
        rw [show (((0 : Nat) : Int)) = 0 from rfl, w3] at hi0
        rw [if_pos (by simp; omega), sIsSet F (by omega) _ _ g.row64, obind, isS_intro g hS, if_pos rfl, if_pos (by simp; omega), sListOf F (by omega) _ (by unfold I64; omega), obind, listN_nat hz h7, hi0, obind, nnO_ok (by omega), obind, shL1 (by omega), sGrow F (by omega) g hS hvS, obind, catO_ok (by simp; omega), obind]
        rw [w1, iPartOf F (by omega) g hz w5 hne, obind, ← hcut, catO_ok (by simp; omega), obind, bAndNot_nat _ _ (by omega) (by omega)]
        have hCu : (itr R S (2 ^ lowV z) m).testBit (lowV z) = true := itr_has hvS m
        have hlow : lowV z < m := bit_lt hC hCu
        generalize hCe : itr R S (2 ^ lowV z) m = C at *
        rw [w64 (by omega) (by omega)]
        refine ⟨_, _, rfl, rfl, ⟨l ++ [(C : Int)], ndiff z C, ?_, rfl, hcn, ?_, ?_, ?_⟩, ?_⟩
        · clear hgd
          rw [← d1]
          congr 1
          omega
        · clear hgd; simp; omega
        · intro x hx
          rw [List.mem_append, List.mem_singleton] at hx
          rcases hx with hx | rfl
          · exact hgd x hx
          · exact ⟨C, lowV z, rfl, hC, hcl, hlow, hCe.symm, hCu⟩
        · clear hgd
          rw [List.sum_append, ← d1]
          simp
          omega
        · clear hgd; dsimp only; omega)
    F ([], (S : Int)) ((S : Int), []) ⟨[], S, rfl, rfl, ⟨Nat.and_self _, fun a b _ _ _ h _ => h⟩, by
      have := pc_le m h7 S hS
      simp; omega, by simp, by simp⟩ (by dsimp only; omega)
  rw [e1, e2, obind, obind]
  exact ⟨r, hlen, rfl, rfl, hgd, hsum⟩

theorem iLexVal (F : Nat) (hF : 2097152 ≤ F) {m : Nat} {R : Nat → Nat} (g : VG m R) (hn : I64 (m : Int)) (l : List Int) (hl : l.length ≤ 1048576) (hO : isO (m : Int) (rowsOf m R) l = true) (ho : Ord m l) (hlen : l.length = m) : S_impl_IsLexOrder F (m : Int) (rowsOf m R) l = some (allB (l.length - 1) (fun j => lexAt R l (1 + j))) := by
  unfold S_impl_IsLexOrder
  rw [iIsOrder F (by omega) _ hn _ g.row64 l (by omega) hl, obind, hO]
  have h7 := g.n7
  have h1 := g.n1
  have hmem := ho.mem
  have tmem : ∀ i x, x ∈ l.take i → 0 ≤ x ∧ x < (m : Int) := fun i x hx => hmem x (List.mem_of_mem_take hx)
  have elt : ∀ i, i < l.length → ∃ v : Nat, l.getD i 0 = (v : Int) ∧ v < m := fun i hi => by
    have := hmem _ (getD_mem hi)
    exact ⟨(l.getD i 0).toNat, by omega, by omega⟩
  rw [if_neg (by simp)]
  rw [show (1 : Int) = ((1 : Nat) : Int) from rfl]
  rw [loop_allO (.inl ()) (.inr false) (lexAt R l) 1 l.length (by omega) ?_ ?_ (by omega), obind]
  · cases allB (l.length - 1) (fun j => lexAt R l (1 + j)) <;> simp [S_impl_IsLexOrder_j1]
  · intro i hi0 hi
    unfold S_impl_IsLexOrder_l2
    rw [if_pos (by simpa using hi)]
    rw [show IntKind.i64.wrap ((i : Int) + 1) = ((i + 1 : Nat) : Int) by rw [w64 (by omega) (by omega)]; simp]
    obtain ⟨a, ha, ham⟩ := elt i hi
    rw [slO_ok (by omega) (by omega), obind]
    rw [loop_allI (.inl ()) (.inr false) (fun j => !(decide (lab R (l.take i) (l.getD i 0).toNat < lab R (l.take i) (l.getD (i + 1 + j) 0).toNat))) (l.length - (i + 1)) ?_ ?_ (by omega), obind]
    · unfold lexAt
      cases allB (l.length - (i + 1)) (fun j => !(decide (lab R (l.take i) (l.getD i 0).toNat < lab R (l.take i) (l.getD (i + 1 + j) 0).toNat))) with
      | false => simp
      | true =>
        simp only [if_true]
        unfold S_impl_IsLexOrder_j3
        rw [w64 (by omega) (by omega)]
        simp
    · intro j hj
      unfold S_impl_IsLexOrder_l4
      have hjl : i + 1 + j < l.length := by omega
      obtain ⟨b, hb2, hbm⟩ := elt (i + 1 + j) hjl
      have hd : idxL (l.drop (((i + 1 : Nat) : Int)).toNat) (j : Int) = some (b : Int) := by
        rw [Int.toNat_natCast, idxL_get (by simp; omega), List.getElem_drop]
        have : l.getD (i + 1 + j) 0 = l[i + 1 + j] := by simp [hjl]
        rw [← this, hb2]
      have ip : IntKind.i64.wrap ((i : Int) + 1) = ((i + 1 : Nat) : Int) := by rw [w64 (by omega) (by omega)]; simp
      rw [ip, if_pos (by simp; omega), hd, obind, slO_ok (by omega) (by omega), obind, idxL_getD hi, obind, obind, ha, hb2, Int.toNat_natCast, iLabel F (by omega) g (tmem i) (by simp; omega) hbm, obind, iLabel F (by omega) g (tmem i) (by simp; omega) ham, obind, cast_lt, w64 (by omega) (by omega), Int.toNat_natCast, Int.toNat_natCast]
      cases decide (lab R (l.take i) a < lab R (l.take i) b) <;> simp
    · unfold S_impl_IsLexOrder_l4
      have ip : IntKind.i64.wrap ((i : Int) + 1) = ((i + 1 : Nat) : Int) := by rw [w64 (by omega) (by omega)]; simp
      rw [ip, if_neg (by simp)]
  · unfold S_impl_IsLexOrder_l2
    simp

end Go.Proofs.Ytilfniehellmmaa
