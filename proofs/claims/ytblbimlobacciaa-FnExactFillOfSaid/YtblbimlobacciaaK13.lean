/- Proved here: regions of open order, with what is done kept as the bits of a number. It holds for every program. -/
import Derived.Test.YtblbimlobacciaaK11
namespace Go.Proofs.Ytblbimlobacciaa
open Go Go.RowKit
set_option linter.unusedVariables false
set_option linter.unusedSimpArgs false

def bl (n m : Nat) : Array Bool := ((List.range n).map fun i => m.testBit i).toArray

section
variable {P : Program} {ops : Array Oper} {Q : Exit → Act → World → Prop} {a : Act} {w w' : World} {n : Nat} {L : Slots} {C : World → Prop} {fuel : Nat} {k m : Nat}

theorem an_startB {id : Nat} (k : Nat) (T : Nat → Prop) (hm : P.follows .mixedOrders = true) (hk : Array.replicate ops.size false = bl k 0) (h : ∀ wb, Fr Nob w wb → wpAnyH P .any ops Q (Fr T wb) ops.size (bl k 0) a wb) : (Code.region id ops true).wp P Q a w :=
  an_start T hm fun wb hb => by rw [hk]; exact h wb hb

theorem an_takeB (hS : Sl n L a) {i : Nat} (m2 : Nat) (hl : (bl k m).setIfInBounds i true = bl k m2) {oi : Oper} (hi : ops[i]? = some oi) (hs : Region.noSelect ops = true) (hf : Region.free .any ops (bl k m) i = true) (hr : (Region.ready .any ops (bl k m)).contains i = true)
    {d : Nat} (hd : oi.dst = some d) (hn : d < n) (hQ : ∀ c a a' w, a.defers = a'.defers → Q (.panic c) a w → Q (.panic c) a' w) (hw : wantB ops L oi = some true) {v : Value} (hrun : ∀ w', C w' → RunV P a.eval oi w' v w') (hC : C w)
    (h : ∀ a', Sl n ((d, v) :: L) a' → wpAnyH P .any ops Q C fuel (bl k m2) a' w) : wpAnyH P .any ops Q C (fuel + 1) (bl k m) a w :=
  an_take hS hi hs hf hr hd hn hQ hw hrun hC fun a' h' => by rw [hl]; exact h a' h'

theorem an_skipB (hS : Sl n L a) {i : Nat} (m2 : Nat) (hl : (bl k m).setIfInBounds i true = bl k m2) {oi : Oper} (hi : ops[i]? = some oi) (hs : Region.noSelect ops = true) (hf : Region.free .any ops (bl k m) i = true) (hr : (Region.ready .any ops (bl k m)).contains i = true)
    {d : Nat} (hd : oi.dst = some d) (hn : d < n) (hQ : ∀ c a a' w, a.defers = a'.defers → Q (.panic c) a w → Q (.panic c) a' w) (hw : wantB ops L oi = some false) (hC : C w)
    (h : ∀ a', Sl n ((d, undef) :: L) a' → wpAnyH P .any ops Q C fuel (bl k m2) a' w) : wpAnyH P .any ops Q C (fuel + 1) (bl k m) a w :=
  an_skip hS hi hs hf hr hd hn hQ hw hC fun a' h' => by rw [hl]; exact h a' h'

theorem an_oneB (hS : Sl n L a) {i : Nat} (m2 : Nat) (hl : (bl k m).setIfInBounds i true = bl k m2) {oi : Oper} (hi : ops[i]? = some oi) (hr : Region.ready .any ops (bl k m) = [i]) (hw : wantB ops L oi = some true)
    (h : oi.wp P a w (fun a' w' => C w' ∧ wpAnyH P .any ops Q C fuel (bl k m2) a' w') Q) : wpAnyH P .any ops Q C (fuel + 1) (bl k m) a w :=
  an_one hS hi hr hw (by rw [hl]; exact h)

theorem bl_set (n m i : Nat) : (bl n m).setIfInBounds i true = bl n (m ||| 2 ^ i) := by
  apply Array.ext
  · simp [bl]
  · intro j h1 h2
    have hj : j < n := by simpa [bl] using h2
    by_cases e : i = j
    · subst e
      simp [bl, Array.getElem_setIfInBounds, Nat.testBit_or, Nat.testBit_two_pow]
    · simp [bl, Array.getElem_setIfInBounds, Nat.testBit_or, Nat.testBit_two_pow, e]

def frR (m i : Nat) (oi : Oper) (ops : Array Oper) : Nat → List Oper → Bool
  | _, [] => true
  | j, oj :: rest => (Nat.beq j i || (m.testBit j || (oj.after.any (fun e => Region.binds .any e && e.on == i) || oi.apart ops oj))) && frR m i oi ops (j + 1) rest

def rdR (k m : Nat) (oi : Oper) : Bool := oi.after.all fun e => !Region.binds .any e || (Nat.blt e.on k && m.testBit e.on)

def fastC (ops : Array Oper) (k m i : Nat) (oi : Oper) : Bool := Nat.blt i k && (!m.testBit i && (rdR k m oi && frR m i oi ops 0 ops.toList))

theorem bl_getD (k m j : Nat) (d : Bool) : (bl k m).getD j d = if j < k then m.testBit j else d := by
  by_cases h : j < k
  · simp [bl, Array.getD, h]
  · simp [bl, Array.getD, h]

theorem frR_spec {m i : Nat} {oi : Oper} {ops : Array Oper} : ∀ (l : List Oper) (j0 : Nat), frR m i oi ops j0 l = true → ∀ t oj, l[t]? = some oj → (Nat.beq (j0 + t) i || (m.testBit (j0 + t) || (oj.after.any (fun e => Region.binds .any e && e.on == i) || oi.apart ops oj))) = true
  | [], _, _, t, oj, h => by simp at h
  | o :: l, j0, h, t, oj, ht => by
    simp only [frR, Bool.and_eq_true] at h
    cases t with
    | zero =>
      simp at ht
      subst ht
      exact h.1
    | succ t =>
      have := frR_spec l (j0 + 1) h.2 t oj (by simpa using ht)
      rw [show j0 + (t + 1) = j0 + 1 + t by omega]
      exact this

theorem fastC_elim {ops : Array Oper} {k m i : Nat} {oi : Oper} (hi : ops[i]? = some oi) (h : fastC ops k m i oi = true) : Region.free .any ops (bl k m) i = true ∧ (Region.ready .any ops (bl k m)).contains i = true := by
  simp only [fastC, Bool.and_eq_true, Bool.not_eq_true'] at h
  obtain ⟨h1, h2, h3, h4⟩ := h
  have h1 : i < k := Nat.le_of_ble_eq_true h1
  constructor
  · unfold Region.free
    rw [hi]
    dsimp only
    rw [List.all_eq_true]
    intro j hj
    rw [List.mem_range] at hj
    have hg : ops[j]? = some ops[j] := Array.getElem?_eq_getElem hj
    have := frR_spec ops.toList 0 h4 j ops[j] (by rw [← hg]; simp)
    rw [Nat.zero_add] at this
    rw [hg]
    dsimp only
    simp only [Bool.or_eq_true] at this ⊢
    rcases this with h | h | h
    · left; left
      rw [beq_iff_eq]
      exact Nat.eq_of_beq_eq_true h
    · left; right
      rw [bl_getD]
      split
      · exact h
      · rfl
    · right; exact h
  · rw [List.contains_iff_mem]
    unfold Region.ready
    rw [List.mem_filter, List.mem_range]
    have hsz : i < ops.size := by
      rcases Nat.lt_or_ge i ops.size with h | h
      · exact h
      · rw [Array.getElem?_eq_none h] at hi; cases hi
    refine ⟨hsz, ?_⟩
    rw [bl_getD, if_pos h1, h2, hi]
    unfold rdR at h3
    rw [Array.all_eq_true_iff_forall_mem] at h3
    simp only [Bool.not_false, Bool.true_and, Option.map_some, Option.getD_some]
    rw [Array.all_eq_true_iff_forall_mem]
    intro e he
    have := h3 e he
    simp only [Bool.or_eq_true, Bool.and_eq_true] at this ⊢
    rcases this with h | ⟨ha, hb⟩
    · exact .inl h
    · right
      have ha : e.on < k := Nat.le_of_ble_eq_true ha
      rw [bl_getD, if_pos ha]
      exact hb

def tkC (ops : Array Oper) (k m m2 i : Nat) : Bool := Nat.beq (m ||| 2 ^ i) m2 && (Region.noSelect ops && match ops[i]? with
  | none => false
  | some oi => fastC ops k m i oi)

theorem tkC_elim {ops : Array Oper} {k m m2 i : Nat} (h : tkC ops k m m2 i = true) : Region.noSelect ops = true ∧ Region.free .any ops (bl k m) i = true ∧ (Region.ready .any ops (bl k m)).contains i = true ∧ (bl k m).setIfInBounds i true = bl k m2 := by
  simp only [tkC, Bool.and_eq_true] at h
  obtain ⟨h1, h2, h3⟩ := h
  cases hi : ops[i]? with
  | none => rw [hi] at h3; cases h3
  | some oi =>
    rw [hi] at h3
    obtain ⟨h4, h5⟩ := fastC_elim hi h3
    exact ⟨h2, h4, h5, by rw [bl_set, Nat.eq_of_beq_eq_true h1]⟩

theorem tkB (hS : Sl n L a) (i m2 : Nat) (hc : tkC ops k m m2 i = true) {oi : Oper} (hi : ops[i]? = some oi)
    {d : Nat} (hd : oi.dst = some d) (hn : Nat.blt d n = true) (hQ : ∀ c a a' w, a.defers = a'.defers → Q (.panic c) a w → Q (.panic c) a' w) (hw : wantB ops L oi = some true) {v : Value} (hrun : ∀ w', C w' → RunV P a.eval oi w' v w') (hC : C w)
    (h : ∀ a', Sl n ((d, v) :: L) a' → wpAnyH P .any ops Q C fuel (bl k m2) a' w) : wpAnyH P .any ops Q C (fuel + 1) (bl k m) a w := by
  obtain ⟨h1, h2, h3, h4⟩ := tkC_elim hc
  exact an_take hS hi h1 h2 h3 hd (Nat.le_of_ble_eq_true hn) hQ hw hrun hC fun a' h' => by rw [h4]; exact h a' h'

def skL : List Nat → Slots → Slots
  | [], L => L
  | d :: ds, L => skL ds ((d, undef) :: L)

def skR (ops : Array Oper) (k n : Nat) : Nat → Slots → List Nat → List Nat → Nat → Bool
  | m, _, [], [], m2 => Nat.beq m m2
  | m, L, i :: is, d :: ds, m2 => match ops[i]? with
    | none => false
    | some oi => (match oi.dst with
      | none => false
      | some e => Nat.beq e d) && (Nat.blt d n && (tkC ops k m (m ||| 2 ^ i) i && ((match wantB ops L oi with
        | some false => true
        | _ => false) && skR ops k n (m ||| 2 ^ i) ((d, undef) :: L) is ds m2)))
  | _, _, _, _, _ => false

theorem skB_aux (hQ : ∀ c a a' w, a.defers = a'.defers → Q (.panic c) a w → Q (.panic c) a' w) (hC : C w) (m2 : Nat) : ∀ (is ds : List Nat) (m : Nat) (L : Slots) (a : Act), Sl n L a → skR ops k n m L is ds m2 = true → (∀ a', Sl n (skL ds L) a' → wpAnyH P .any ops Q C fuel (bl k m2) a' w) → wpAnyH P .any ops Q C (fuel + is.length) (bl k m) a w
  | [], [], m, L, a, hS, hc, h => by
    simp only [skR] at hc
    rw [Nat.eq_of_beq_eq_true hc]
    exact h a hS
  | [], _ :: _, m, L, a, hS, hc, h => by simp [skR] at hc
  | _ :: _, [], m, L, a, hS, hc, h => by simp [skR] at hc
  | i :: is, d :: ds, m, L, a, hS, hc, h => by
    simp only [skR] at hc
    cases hi : ops[i]? with
    | none => rw [hi] at hc; simp at hc
    | some oi =>
      rw [hi] at hc
      simp only [Bool.and_eq_true] at hc
      obtain ⟨c1, c2, c3, c4, c5⟩ := hc
      obtain ⟨h1, h2, h3, h4⟩ := tkC_elim c3
      have hd : oi.dst = some d := by
        cases e : oi.dst with
        | none => rw [e] at c1; simp at c1
        | some e2 => rw [e] at c1; rw [Nat.eq_of_beq_eq_true c1]
      have hw : wantB ops L oi = some false := by
        cases e : wantB ops L oi with
        | none => rw [e] at c4; simp at c4
        | some b =>
          rw [e] at c4
          cases b
          · rfl
          · simp at c4
      have hn : d < n := Nat.le_of_ble_eq_true c2
      rw [List.length_cons, ← Nat.add_assoc]
      exact an_skip hS hi h1 h2 h3 hd hn hQ hw hC fun a' h' => by
        rw [h4]
        exact skB_aux hQ hC m2 is ds _ _ a' h' c5 h

/-- Several that are not wanted are passed over. -/
theorem skB (hS : Sl n L a) (is ds : List Nat) (m2 fuel : Nat) {g : Nat} (hg : g = fuel + is.length) (hc : skR ops k n m L is ds m2 = true) (hQ : ∀ c a a' w, a.defers = a'.defers → Q (.panic c) a w → Q (.panic c) a' w) (hC : C w)
    (h : ∀ a', Sl n (skL ds L) a' → wpAnyH P .any ops Q C fuel (bl k m2) a' w) : wpAnyH P .any ops Q C g (bl k m) a w := by
  subst hg
  exact skB_aux hQ hC m2 is ds m L a hS hc h

theorem Mem.callo0 {S : Nat → Prop} {w0 w w' : World} {B A' : RL} (h : Mem S w0 w B) (hc : Mem Nob w w' A') (hA' : allOwn A' = true) : Mem S w0 w' (A' ++ B) := Mem.callo (A := []) (B := B) h rfl (hc.memS fun _ h => h.elim) hA'

theorem r_ccc {r r2 r3 : ResultVar} {v v2 v3 : Value} {fn : Func} {K : Value → World → Prop} (hS : Sl n L a) (hres : fn.results = #[r, r2, r3]) (hv : RsV P w L r v) (hv2 : RsV P w L r2 v2) (hv3 : RsV P w L r3 v3) (hR : K (.tuple #[v, v2, v3]) w) : bodyPost P fn (retPost K) .ret a w := by
  refine bodyPost_ret (v := .tuple #[v, v2, v3]) ?_ hS.defers hR
  cases r with
  | tmp t =>
    have e1 := hS.get _ _ hv
    simp only [Array.getD_eq_getD_getElem?] at e1
    cases r2 with
    | tmp t2 =>
      have e2 := hS.get _ _ hv2
      simp only [Array.getD_eq_getD_getElem?] at e2
      cases r3 with
      | tmp t3 =>
        have e3 := hS.get _ _ hv3
        simp only [Array.getD_eq_getD_getElem?] at e3
        simp [results, hres, e1, e2, e3]
      | cell t3 ty3 =>
        obtain ⟨p3, hp3, hl3⟩ := hv3
        have e3 := hS.get _ _ hp3
        simp only [Array.getD_eq_getD_getElem?] at e3
        simp [results, hres, e1, e2, e3, hl3, asAddr]
    | cell t2 ty2 =>
      obtain ⟨p2, hp2, hl2⟩ := hv2
      have e2 := hS.get _ _ hp2
      simp only [Array.getD_eq_getD_getElem?] at e2
      cases r3 with
      | tmp t3 =>
        have e3 := hS.get _ _ hv3
        simp only [Array.getD_eq_getD_getElem?] at e3
        simp [results, hres, e1, e2, hl2, e3, asAddr]
      | cell t3 ty3 =>
        obtain ⟨p3, hp3, hl3⟩ := hv3
        have e3 := hS.get _ _ hp3
        simp only [Array.getD_eq_getD_getElem?] at e3
        simp [results, hres, e1, e2, hl2, e3, hl3, asAddr]
  | cell t ty =>
    obtain ⟨p1, hp1, hl1⟩ := hv
    have e1 := hS.get _ _ hp1
    simp only [Array.getD_eq_getD_getElem?] at e1
    cases r2 with
    | tmp t2 =>
      have e2 := hS.get _ _ hv2
      simp only [Array.getD_eq_getD_getElem?] at e2
      cases r3 with
      | tmp t3 =>
        have e3 := hS.get _ _ hv3
        simp only [Array.getD_eq_getD_getElem?] at e3
        simp [results, hres, e1, hl1, e2, e3, asAddr]
      | cell t3 ty3 =>
        obtain ⟨p3, hp3, hl3⟩ := hv3
        have e3 := hS.get _ _ hp3
        simp only [Array.getD_eq_getD_getElem?] at e3
        simp [results, hres, e1, hl1, e2, e3, hl3, asAddr]
    | cell t2 ty2 =>
      obtain ⟨p2, hp2, hl2⟩ := hv2
      have e2 := hS.get _ _ hp2
      simp only [Array.getD_eq_getD_getElem?] at e2
      cases r3 with
      | tmp t3 =>
        have e3 := hS.get _ _ hv3
        simp only [Array.getD_eq_getD_getElem?] at e3
        simp [results, hres, e1, hl1, e2, hl2, e3, asAddr]
      | cell t3 ty3 =>
        obtain ⟨p3, hp3, hl3⟩ := hv3
        have e3 := hS.get _ _ hp3
        simp only [Array.getD_eq_getD_getElem?] at e3
        simp [results, hres, e1, hl1, e2, hl2, e3, hl3, asAddr]
end

inductive Pk (R : RL) : List Nat → RL → Prop
  | nil : Pk R [] []
  | cons {i : Nat} {x : Bool × Res} {is : List Nat} {R' : RL} (h : R[i]? = some x) (t : Pk R is R') : Pk R (i :: is) (x :: R')
theorem Pk.eq {R : RL} {idx : List Nat} {R' : RL} (h : Pk R idx R') : idx.filterMap (fun i => R[i]?) = R' := by
  induction h with
  | nil => rfl
  | cons h t ih => simp [h, ih]
theorem pn {R : RL} : Pk R [] [] := .nil
theorem pc {R : RL} {i : Nat} {x : Bool × Res} {is : List Nat} {R' : RL} (h : R[i]? = some x) (t : Pk R is R') : Pk R (i :: is) (x :: R') := .cons h t
theorem Mem.pk {S : Nat → Prop} {w0 w : World} {R : RL} (h : Mem S w0 w R) (idx : List Nat) (hnd : idx.Nodup) {R' : RL} (hR : Pk R idx R') : Mem S w0 w R' := h.pick idx hnd hR.eq


end Go.Proofs.Ytblbimlobacciaa
