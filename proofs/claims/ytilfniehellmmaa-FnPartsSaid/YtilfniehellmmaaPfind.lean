/- Proved here: the searches for claws, pairs of edges, induced paths and holes: both programs find the same. -/
import Derived.Test.YtilfniehellmmaaPsrch
namespace Go.Proofs.Ytilfniehellmmaa
open Go Go.RowKit
set_option linter.unusedVariables false
set_option linter.unusedSimpArgs false

theorem neO_ok {n : Nat} (h : n ≠ 0) : neO n = some () := by simp [neO, h]

theorem nodup_snoc (l : List Int) (x : Int) : nodupB (l ++ [x]) = (nodupB l && !(l.contains x)) := by
  unfold nodupB allB
  rw [List.length_append, List.length_singleton, List.range_succ, List.all_append]
  congr 1
  · have h : ∀ k, k < l.length → (!(((l ++ [x]).take k).contains ((l ++ [x]).getD k 0))) = !((l.take k).contains (l.getD k 0)) := by
      intro k hk
      rw [List.take_append_of_le_length (by omega)]
      simp [List.getD_eq_getElem?_getD, List.getElem?_append_left hk]
    rw [Bool.eq_iff_iff, List.all_eq_true, List.all_eq_true]
    constructor
    · intro g k hk
      rw [← h k (by simpa using hk)]; exact g k hk
    · intro g k hk
      rw [h k (by simpa using hk)]; exact g k hk
  · simp

def okI (may : List Int → Bool) (x : List Int) : Bool := !(x.dropLast.contains (x.getLastD 0)) && may x
theorem okI_snoc (may : List Int → Bool) (l : List Int) (x : Int) : okI may (l ++ [x]) = (!(l.contains x) && may (l ++ [x])) := by
  simp [okI]

def GJ (slf : List Int → Option (Option (List Int))) (l : List Int) (x : Int) (p : Bool) : Option (Int ⊕ (Unit ⊕ (Option (List Int)))) :=
  (if p = true then ((slf (l.take ((l.length : Int).toNat) ++ ([x] : List (Int)))).bind fun r => (match r with | none => some (Sum.inl (IntKind.i64.wrap (x + 1))) | some c => ((neO c.length).bind fun _ => some (Sum.inr (Sum.inr (some c)))))) else some (Sum.inl (IntKind.i64.wrap (x + 1))))

def GB (F : Nat) (may holds : List Int → Option Bool) (slf : List Int → Option (Option (List Int))) (n m : Int) (l : List Int) : Option (Option (List Int)) :=
  (if ((l.length : Int) == n) = true then ((holds l).bind fun r34 => (if r34 = true then ((S_slices_Clone_int F l).bind fun r38 => some (some r38)) else some none)) else (loopN (σ := Int) (β := (Unit ⊕ (Option (List Int)))) (fun x => (if (decide (x < m)) = true then ((slO l.length (l.length : Int)).bind fun _ => ((catO (l.take ((l.length : Int).toNat)).length ([x] : List (Int)).length).bind fun _ => ((S_slices_Contains_int F l x).bind fun r249 => (if (!r249) = true then ((may (l.take ((l.length : Int).toNat) ++ ([x] : List (Int)))).bind fun r250 => GJ slf l x r250) else GJ slf l x false)))) else some (Sum.inr (Sum.inl ())))) F 0).bind (fun b => (match b with | .inl o => some none | .inr o => some o)))

theorem g_srch (F : Nat) (hF : 2097152 ≤ F) (m n : Nat) (hm : m ≤ 7) (hn1 : 1 ≤ n) (hn7 : n ≤ 7) (may holds : List Int → Option Bool) (mayB holdsB : List Int → Bool) (hmay : ∀ x, x.length ≤ n → may x = some (mayB x)) (hholds : ∀ x, x.length = n → holds x = some (holdsB x)) (Sd : Nat → List Int → Option (Option (List Int))) (hS : ∀ D l, Sd (D + 1) l = GB F may holds (Sd D) (n : Int) (m : Int) l) : ∀ D l, l.length ≤ n → n < D + l.length → Sd D l = some (srch m n (okI mayB) holdsB D l)
  | 0, l, h1, h2 => by omega
  | D + 1, l, h1, h2 => by
    rw [hS]
    unfold GB
    simp only [srch]
    by_cases hl : l.length = n
    · rw [if_pos (by simp [hl]), if_pos hl, hholds l hl, obind]
      cases hb : holdsB l with
      | true =>
        rw [if_pos rfl, if_pos rfl]
        unfold S_slices_Clone_int
        rw [neO_ok (by omega), obind, catO_ok (by simp; omega), obind, obind]
        rfl
      | false => rw [if_neg (by simp), if_neg (by simp)]
    · rw [if_neg (by simp; omega), if_neg hl]
      have e : l.take ((l.length : Int).toNat) = l := by simp
      rw [show (0 : Int) = ((0 : Nat) : Int) from rfl, loop_fsm (fun v => if okI mayB (l ++ [(v : Int)]) = true then srch m n (okI mayB) holdsB D (l ++ [(v : Int)]) else none) (fun y => .inr (some y)) (.inl ()) m 0 ?_ ?_ (by omega), obind]
      · cases fsm (fun v => if okI mayB (l ++ [(v : Int)]) = true then srch m n (okI mayB) holdsB D (l ++ [(v : Int)]) else none) m 0 <;> rfl
      · intro i _ hi
        have hlen : (l ++ [(i : Int)]).length ≤ n := by simp; omega
        rw [if_pos (by simp; omega), slO_ok (by omega) (by omega), obind, e, catO_ok (by simp; omega), obind, idxContains F l _ (by omega) (by omega), obind, okI_snoc]
        cases hc : l.contains (i : Int) with
        | true =>
          rw [if_neg (by simp)]
          unfold GJ
          rw [if_neg (by simp), w64 (by omega) (by omega)]
          simp
        | false =>
          rw [if_pos (by simp), hmay _ hlen, obind]
          unfold GJ
          rw [e]
          cases hmb : mayB (l ++ [(i : Int)]) with
          | false =>
            rw [if_neg (by simp), w64 (by omega) (by omega)]
            simp
          | true =>
            rw [if_pos rfl, g_srch F hF m n hm hn1 hn7 may holds mayB holdsB hmay hholds Sd hS D (l ++ [(i : Int)]) hlen (by simp; omega), obind]
            simp only [Bool.not_false, Bool.and_self, if_true]
            cases hs : srch m n (okI mayB) holdsB D (l ++ [(i : Int)]) with
            | none =>
              dsimp only
              rw [w64 (by omega) (by omega)]
              simp
            | some y =>
              have := (srch_len D _ _ hs).1
              dsimp only
              rw [neO_ok (by omega), obind]
      · rw [if_neg (by simp)]

/-! ### four vertices -/

def dig (m c : Nat) : List Int := [((c / (m * m * m) : Nat) : Int), ((c / (m * m) % m : Nat) : Int), ((c / m % m : Nat) : Int), ((c % m : Nat) : Int)]

theorem dig_eq (m a b c d : Nat) (hb : b < m) (hc : c < m) (hd : d < m) : dig m (((a * m + b) * m + c) * m + d) = [(a : Int), (b : Int), (c : Int), (d : Int)] := by
  have hm : 0 < m := by omega
  have e1 : (((a * m + b) * m + c) * m + d) / m = (a * m + b) * m + c := by
    rw [Nat.add_comm, Nat.add_mul_div_right _ _ hm, Nat.div_eq_of_lt hd, Nat.zero_add]
  have e2 : ((a * m + b) * m + c) / m = a * m + b := by
    rw [Nat.add_comm, Nat.add_mul_div_right _ _ hm, Nat.div_eq_of_lt hc, Nat.zero_add]
  have e3 : (a * m + b) / m = a := by
    rw [Nat.add_comm, Nat.add_mul_div_right _ _ hm, Nat.div_eq_of_lt hb, Nat.zero_add]
  have f1 : (((a * m + b) * m + c) * m + d) % m = d := by rw [Nat.add_comm, Nat.add_mul_mod_self_right, Nat.mod_eq_of_lt hd]
  have f2 : ((a * m + b) * m + c) % m = c := by rw [Nat.add_comm, Nat.add_mul_mod_self_right, Nat.mod_eq_of_lt hc]
  have f3 : (a * m + b) % m = b := by rw [Nat.add_comm, Nat.add_mul_mod_self_right, Nat.mod_eq_of_lt hb]
  unfold dig
  rw [← Nat.div_div_eq_div_mul, ← Nat.div_div_eq_div_mul, e1, e2, e3, f1, f2, f3]

/-- All lists of four, by their number or one place after the other. -/
theorem four_srch (m : Nat) (P : List Int → Bool) (hP : ∀ l, nodupB l = false → P l = false) (d : Nat) : fsm (fun c => if P (dig m c) = true then some (dig m c) else none) (m * m * m * m) 0 = srch m 4 (okI (fun _ => true)) P (d + 5) [] := by
  have h1 := srch_congr (m := m) (n := 4) (ok := okI (fun _ => true)) (ok2 := fun _ => true) (fin := P) (fin2 := P) (by
    intro d l _
    cases e : okI (fun _ => true) l with
    | true => rfl
    | false =>
      rw [srch_none (fun l => nodupB l = false) (fun l x h => by rw [nodup_snoc, h]; rfl) hP d l ?_]
      · simp
      · rcases List.eq_nil_or_concat l with rfl | ⟨l', x, rfl⟩
        · simp [okI] at e
        · rw [List.concat_eq_append, okI_snoc] at e
          rw [List.concat_eq_append, nodup_snoc]
          simp at e
          simp [e]) (fun _ => rfl) (d + 5) [] (by simp)
  rw [h1]
  have h2 := fsm_mul (fun c => if P (dig m c) = true then some (dig m c) else none) m (m * m * m) 0
  rw [Nat.zero_mul] at h2
  rw [h2]
  have h3 := fsm_mul (fun i => fsm (fun j => if P (dig m (i * m + j)) = true then some (dig m (i * m + j)) else none) m 0) m (m * m) 0
  rw [Nat.zero_mul] at h3
  rw [h3]
  have h4 := fsm_mul (fun i => fsm (fun k => fsm (fun j => if P (dig m ((i * m + k) * m + j)) = true then some (dig m ((i * m + k) * m + j)) else none) m 0) m 0) m m 0
  rw [Nat.zero_mul] at h4
  rw [h4]
  simp only [srch, List.length_nil, List.nil_append, List.length_cons, List.length_append, if_true, Nat.reduceEqDiff, if_false, Nat.zero_add, Nat.reduceAdd]
  refine fsm_congr m 0 fun a _ ha => fsm_congr m 0 fun b _ hb => fsm_congr m 0 fun c _ hc => fsm_congr m 0 fun e _ he => ?_
  rw [dig_eq m a b c e (by omega) (by omega) (by omega)]
  rfl

end Go.Proofs.Ytilfniehellmmaa
