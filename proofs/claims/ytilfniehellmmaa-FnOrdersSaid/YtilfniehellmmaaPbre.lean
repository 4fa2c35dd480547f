/- Proved here: orders by breadth: both programs compute the same. -/
import Derived.Test.YtilfniehellmmaaPgreed
namespace Go.Proofs.Ytilfniehellmmaa
open Go Go.RowKit
set_option linter.unusedVariables false
set_option linter.unusedSimpArgs false

theorem Ord.room {m : Nat} {l : List Int} (h : Ord m l) (h7 : m ≤ 7) {v : Nat} (hv : v < m) (hc : l.contains (v : Int) = false) : l.length < m := by
  have hl := h.len
  rcases Nat.lt_or_ge l.length m with g | g
  · exact g
  · exfalso
    have := pc_full m h7 (bitsOf l) (h.lt h7) (by rw [h.pc h7]; omega)
    have hb := h.bit h7 hv
    rw [this, Nat.testBit_two_pow_sub_one, hc] at hb
    simp at hb
    omega

def bro (q : Nat → Bool) (l : List Int) : Nat → List Int
  | 0 => l
  | k + 1 => if (q k && !((bro q l k).contains (k : Int))) = true then bro q l k ++ [(k : Int)] else bro q l k
theorem bro_pre (q : Nat → Bool) (l : List Int) : ∀ k, ∃ t, bro q l k = l ++ t
  | 0 => ⟨[], by simp [bro]⟩
  | k + 1 => by
    obtain ⟨t, h⟩ := bro_pre q l k
    unfold bro
    split
    · exact ⟨t ++ [(k : Int)], by rw [h, List.append_assoc]⟩
    · exact ⟨t, h⟩
theorem bro_ord {m : Nat} {q : Nat → Bool} {l : List Int} (h : Ord m l) (h7 : m ≤ 7) : ∀ k, k ≤ m → Ord m (bro q l k)
  | 0, _ => h
  | k + 1, hk => by
    have ih := bro_ord (q := q) h h7 k (by omega)
    unfold bro
    split
    · rename_i hc
      rw [Bool.and_eq_true] at hc
      have hc2 : (bro q l k).contains (k : Int) = false := by simpa using hc.2
      exact (ih.snoc h7 (by omega) hc2 (ih.room h7 (by omega) hc2)).1
    · exact ih
def addI (o : List Int) (w : Int) : List Int := if o.contains w = true then o else o ++ [w]
theorem bro_fold (q : Nat → Bool) (l : List Int) : ∀ k, (selN k q).foldl addI l = bro q l k
  | 0 => rfl
  | k + 1 => by
    rw [selN_succ]
    unfold bro
    rw [← bro_fold q l k]
    cases hq : q k with
    | false => simp
    | true =>
      rw [if_pos rfl, List.foldl_append]
      simp only [List.foldl_cons, List.foldl_nil, Bool.true_and]
      unfold addI
      cases ((selN k q).foldl (fun o w => if o.contains w = true then o else o ++ [w]) l).contains (k : Int) <;> simp
theorem bro_more {q : Nat → Bool} {l : List Int} {m : Nat} (h : ∀ v, m ≤ v → q v = false) : ∀ d, bro q l (m + d) = bro q l m
  | 0 => rfl
  | d + 1 => by
    show (if (q (m + d) && !((bro q l (m + d)).contains ((m + d : Nat) : Int))) = true then bro q l (m + d) ++ [((m + d : Nat) : Int)] else bro q l (m + d)) = bro q l m
    rw [h (m + d) (by omega), if_neg (by simp)]
    exact bro_more h d

theorem kBreadthOrder (F : Nat) (hF : 2097152 ≤ F) (n : Int) (hn : I64 n) (rows : List Int) (hr : Row64 rows) (st : Int) : ∃ r : List Int × Bool, r.1.length ≤ 7 ∧ S_spec_BreadthOrder F n rows st = some r ∧ S_impl_BreadthOrder F n rows st = some r := by
  unfold S_spec_BreadthOrder S_impl_BreadthOrder
  rw [sIsGraph F (by omega) n rows hr, obind, iVertex F (by omega) n hn rows hr _ (by simp; omega) (by simp), obind]
  have hall : [st].all (fun v => inB v 0 (n - 1)) = inB st 0 (n - 1) := by simp
  rw [hall]
  unfold S_spec_BreadthOrder_j1
  by_cases hc : isG n rows = true ∧ 0 ≤ st ∧ st < n
  · obtain ⟨hG, h0, h1⟩ := hc
    obtain ⟨m, R, rfl, rfl, g⟩ := isG_elim hG
    have h7 := g.n7
    have hp := pow128 h7
    obtain ⟨v, rfl⟩ : ∃ v : Nat, st = v := ⟨st.toNat, by omega⟩
    rw [hG, inB_iff.2 (show (0 : Int) ≤ (v : Int) ∧ (v : Int) ≤ (m : Int) - 1 by omega)]
    rw [if_neg (by simp), if_neg (by simp), if_neg (by simp; omega), nnO_ok (by omega), obind, shL1 (by omega), if_neg (by simp)]
    obtain ⟨o1, b1⟩ := Ord.one (m := m) (v := v) (by omega) h7
    obtain ⟨r, q, e1, e2, rfl, hlen⟩ := loop_sim (b1 := fun s : List Int × Int × Int => S_spec_BreadthOrder_l3 F (m : Int) (rowsOf m R) s.1 s.2.1 s.2.2) (b2 := fun s : List Int × Int => S_impl_BreadthOrder_l2 F (rowsOf m R) s.1 s.2)
      (fun a b => ∃ (l : List Int) (i : Nat), a = (l, ((bitsOf l : Nat) : Int), (i : Int)) ∧ b = (l, (i : Int)) ∧ Ord m l ∧ i ≤ l.length) (fun a => m - a.2.2.toNat) (fun a b => a = b ∧ a.length ≤ 7)
      (by
        rintro _ _ ⟨l, i, rfl, rfl, ho, hil⟩
        have hol := ho.len
        unfold S_spec_BreadthOrder_l3 S_impl_BreadthOrder_l2
        dsimp only
        by_cases hlt : i < l.length
        · left
          have hx := ho.mem _ (getD_mem hlt)
          obtain ⟨a, ha⟩ : ∃ a : Nat, l.getD i 0 = (a : Int) := ⟨(l.getD i 0).toNat, by omega⟩
          have ham : a < m := by omega
          have hba := g.b128 ham
          rw [if_pos (by simp; omega), if_pos (by simp; omega), idxL_getD hlt, obind, ha, rowsOf_idx ham, obind, iListOf F (by omega) _ (by unfold I64; omega), obind, listN_nat (g.lt a ham) h7]
          -- the reference's inner loop
          have hs : loopN (σ := List Int × Int × Int) (β := List Int × Int) (fun s => S_spec_BreadthOrder_l5 F (m : Int) (rowsOf m R) (i : Int) s.1 s.2.1 s.2.2) F (l, ((bitsOf l : Nat) : Int), 0) = some (bro (R a).testBit l m, ((bitsOf (bro (R a).testBit l m) : Nat) : Int)) := by
            rw [show (l, ((bitsOf l : Nat) : Int), (0 : Int)) = (fun k : Nat => (bro (R a).testBit l k, ((bitsOf (bro (R a).testBit l k) : Nat) : Int), (k : Int))) 0 from rfl]
            rw [loop_from0 (fun k : Nat => (bro (R a).testBit l k, ((bitsOf (bro (R a).testBit l k) : Nat) : Int), (k : Int))) (bro (R a).testBit l m, ((bitsOf (bro (R a).testBit l m) : Nat) : Int)) m ?_ ?_ (by omega)]
            · intro k hk
              have hok := bro_ord (q := (R a).testBit) ho h7 k (by omega)
              have hlk := hok.lt h7
              obtain ⟨t, ht⟩ := bro_pre (R a).testBit l k
              have hget : idxL (bro (R a).testBit l k) (i : Int) = some (a : Int) := by
                rw [ht, idxL_getD (by simp; omega)]
                congr 1
                rw [← ha]
                simp [List.getElem?_append, hlt]
              have hbs : bro (R a).testBit l (k + 1) = if ((R a).testBit k && !((bro (R a).testBit l k).contains (k : Int))) = true then bro (R a).testBit l k ++ [(k : Int)] else bro (R a).testBit l k := rfl
              unfold S_spec_BreadthOrder_l5
              dsimp only
              rw [if_pos (by simp; omega), nnO_ok (by omega), obind, bit_nat0 (by omega) (by omega), hok.bit h7 hk, hbs]
              unfold S_spec_BreadthOrder_j7 S_spec_BreadthOrder_j6
              rw [w64 (n := (k : Int) + 1) (by omega) (by omega)]
              have hll := hok.len
              cases hcc : (bro (R a).testBit l k).contains (k : Int) with
              | true => simp
              | false =>
                rw [if_pos (by simp), hget, obind, sEdge F g ham (by omega), obind]
                cases hbb : (R a).testBit k with
                | false => simp
                | true =>
                  obtain ⟨o2, e2⟩ := hok.snoc h7 hk hcc (hok.room h7 hk hcc)
                  have hl2 := o2.lt h7
                  rw [e2] at hl2
                  rw [if_pos rfl, catO_ok (by simp; omega), obind, nnO_ok (by omega), obind, shL1 (by omega), if_pos (by simp), e2]
                  generalize 2 ^ k = y at *
                  rw [w64 (by omega) (by omega)]
                  simp
            · unfold S_spec_BreadthOrder_l5
              dsimp only
              rw [if_neg (by simp)]
          -- the program's inner loop
          have hi := loop_list (body := fun s : List Int × Int => S_impl_BreadthOrder_l4 F (selN 7 (R a).testBit) s.1 s.2) (selN 7 (R a).testBit) (fun (o : List Int) k => (o, k)) addI (fun o => Ord m o) (fun o => o) (F := F)
            (by
              intro k hk o hoo
              obtain ⟨u, hu7, hu, e⟩ := mem_selN.1 (List.getElem_mem hk)
              have hum := bit_lt (g.lt a ham) hu
              have hol2 := hoo.len
              have hsl := selN_len 7 (R a).testBit
              unfold S_impl_BreadthOrder_l4 S_impl_BreadthOrder_j5
              dsimp only
              rw [if_pos (by simpa using hk), idxL_get hk, obind, e, idxContains F o _ (by omega) (by omega), obind, w64 (by omega) (by omega)]
              unfold addI
              cases hcc : o.contains (u : Int) with
              | true =>
                rw [if_neg (by simp), if_pos rfl]
                exact ⟨rfl, hoo⟩
              | false =>
                rw [if_pos (by simp), if_neg (by simp), catO_ok (by simp; omega), obind]
                exact ⟨rfl, (hoo.snoc h7 hum hcc (hoo.room h7 hum hcc)).1⟩)
            (by
              intro o hoo
              unfold S_impl_BreadthOrder_l4
              simp)
            l ho (by have := selN_len 7 (R a).testBit; omega)
          have hi1 := hi.1
          rw [bro_fold] at hi1
          have hmore := bro_more (q := (R a).testBit) (l := l) (m := m) (fun u hu => bit_ge (g.lt a ham) hu) (7 - m)
          rw [show m + (7 - m) = 7 by omega] at hmore
          rw [hmore] at hi1
          rw [hs, obind, hi1, obind]
          unfold S_spec_BreadthOrder_j4 S_impl_BreadthOrder_j3
          rw [w64 (by omega) (by omega)]
          have hoo := bro_ord (q := (R a).testBit) ho h7 m (by omega)
          obtain ⟨t, ht⟩ := bro_pre (R a).testBit l m
          refine ⟨_, _, rfl, rfl, ⟨_, i + 1, rfl, rfl, hoo, ?_⟩, by dsimp only; omega⟩
          rw [ht, List.length_append]
          omega
        · right
          rw [if_neg (by simp; omega), if_neg (by simp; omega)]
          exact ⟨_, _, rfl, rfl, rfl, by omega⟩)
      F ([(v : Int)], ((2 ^ v : Nat) : Int), 0) ([(v : Int)], 0) ⟨[(v : Int)], 0, by rw [b1]; rfl, rfl, o1, by simp⟩ (by dsimp only; omega)
    rw [e1, e2, obind, obind]
    exact ⟨(r, true), hlen, rfl, rfl⟩
  · refine ⟨([], false), by simp, ?_, ?_⟩
    · cases hG : isG n rows with
      | false => rfl
      | true =>
        rw [if_neg (by simp)]
        by_cases a1 : st < 0
        · rw [if_pos (by simpa using a1), if_pos rfl]
        rw [if_neg (by simpa using a1)]
        have a2 : n ≤ st := by
          rw [hG] at hc
          simp only [true_and, not_and] at hc
          omega
        rw [if_pos (by simpa using a2)]
    · have : (isG n rows && inB st 0 (n - 1)) = false := by
        rw [← Bool.not_eq_true, Bool.and_eq_true, inB_iff]
        intro ⟨h1, h2, h3⟩
        exact hc ⟨h1, h2, by omega⟩
      rw [this]
      rfl

end Go.Proofs.Ytilfniehellmmaa
