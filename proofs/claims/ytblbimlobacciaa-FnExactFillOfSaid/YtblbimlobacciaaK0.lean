/- Proved here: the base of my own walk: frames as lists of live slots, memory as a list of resources, loops with fuel. It holds for every program. -/
import Derived.WalkKit
import Derived.ProofKit
import Derived.Deep.Quiet
import Derived.Deep.LoopGhost
namespace Go.Proofs.Ytblbimlobacciaa
open Go Go.RowKit
set_option linter.unusedVariables false
set_option linter.unusedSimpArgs false

/-! ### Option, loops with fuel -/

theorem bind_some {α β : Type} {x : Option α} {f : α → Option β} {r : β} (h : x.bind f = some r) : ∃ y, x = some y ∧ f y = some r := by
  cases x with
  | none => cases h
  | some y => exact ⟨y, rfl, h⟩

theorem ite_some {α : Type} {c : Bool} {x y : Option α} {r : α} (h : (if c = true then x else y) = some r) : (c = true ∧ x = some r) ∨ (c = false ∧ y = some r) := by
  cases c with
  | true => exact .inl ⟨rfl, h⟩
  | false => exact .inr ⟨rfl, h⟩

def loopN {σ β : Type} (body : σ → Option (σ ⊕ β)) : Nat → σ → Option β
  | 0, _ => none
  | n + 1, s => match body s with
    | none => none
    | some (.inl t) => loopN body n t
    | some (.inr b) => some b

/-! ### Frames -/

abbrev Slots := List (Nat × Value)

def look : Slots → Nat → Option Value
  | [], _ => none
  | (k, v) :: r, t => bif Nat.beq k t then some v else look r t

structure Sl (n : Nat) (L : Slots) (a : Act) : Prop where
  defers : a.defers = []
  size : a.tmps.size = n
  get : ∀ t v, look L t = some v → a.tmps.getD t undef = v

def opv (L : Slots) : Operand → Option Value
  | .tmp t => look L t
  | .const v => some v
  | .global g => some (.pointer (some ⟨g, 0, none⟩))
  | .func f => some (.func (.func f) #[] #[])

theorem Sl.ev {n : Nat} {L : Slots} {a : Act} {x : Operand} {v : Value} (h : Sl n L a) (hx : opv L x = some v) : a.eval x = v := by
  cases x with
  | tmp t => exact h.get t v hx
  | const u => simp [opv] at hx; simp [Act.eval, hx]
  | global g => simp [opv] at hx; simp [Act.eval, hx]
  | func f => simp [opv] at hx; simp [Act.eval, hx]

theorem Sl.evb {n : Nat} {L : Slots} {a : Act} {x : Operand} {b c : Bool} (h : Sl n L a) (hx : opv L x = some (.bool b)) (hc : b = c) : a.eval x = .bool c := by
  rw [h.ev hx, hc]

theorem Sl.put {n : Nat} {L : Slots} {a : Act} {d : Nat} {v : Value} (h : Sl n L a) (hd : d < n) : Sl n ((d, v) :: L) (a.put (some d) v) := by
  refine ⟨h.defers, by simp [Act.put, h.size], ?_⟩
  intro t u hl
  simp only [look] at hl
  cases hb : Nat.beq d t with
  | true =>
    have hdt : d = t := Nat.eq_of_beq_eq_true hb
    subst hdt
    simp only [hb, cond_true, Option.some.injEq] at hl
    subst hl
    simp [Act.put, h.size, hd]
  | false =>
    have hdt : d ≠ t := Nat.ne_of_beq_eq_false hb
    simp only [hb, cond_false] at hl
    have := h.get t u hl
    simpa [Act.put, Array.getD_eq_getD_getElem?, Array.getElem?_setIfInBounds, hdt] using this

def SubL (L : Slots) : Slots → Prop
  | [] => True
  | (t, v) :: r => look L t = some v ∧ SubL L r

theorem Sl.sub {n : Nat} {L L' : Slots} {a : Act} (h : Sl n L a) (hs : SubL L L') : Sl n L' a := by
  refine ⟨h.defers, h.size, ?_⟩
  intro t v hl
  apply h.get
  induction L' with
  | nil => cases hl
  | cons p r ih =>
    obtain ⟨k, u⟩ := p
    simp only [look] at hl
    cases hb : Nat.beq k t with
    | true =>
      have hkt : k = t := Nat.eq_of_beq_eq_true hb
      subst hkt
      simp only [hb, cond_true, Option.some.injEq] at hl
      subst hl
      exact hs.1
    | false =>
      simp only [hb, cond_false] at hl
      exact ih hs.2 hl

def argSlots : Nat → List Value → Slots
  | _, [] => []
  | k, v :: r => (k, v) :: argSlots (k + 1) r

theorem look_argSlots : ∀ (vs : List Value) (k t : Nat) (v : Value), look (argSlots k vs) t = some v → k ≤ t ∧ vs[t - k]? = some v
  | [], _, _, _, h => by cases h
  | u :: r, k, t, v, h => by
    simp only [argSlots, look] at h
    cases hb : Nat.beq k t with
    | true =>
      have hkt : k = t := Nat.eq_of_beq_eq_true hb
      subst hkt
      simp only [hb, cond_true, Option.some.injEq] at h
      subst h
      exact ⟨Nat.le_refl _, by simp⟩
    | false =>
      have hkt : k ≠ t := Nat.ne_of_beq_eq_false hb
      simp only [hb, cond_false] at h
      obtain ⟨h1, h2⟩ := look_argSlots r (k + 1) t v h
      refine ⟨by omega, ?_⟩
      obtain ⟨m, hm⟩ : ∃ m, t - k = m + 1 := ⟨t - k - 1, by omega⟩
      rw [hm, List.getElem?_cons_succ, ← h2]
      congr 1
      omega

theorem enter {P : Program} {f : FuncId} {fn : Func} {c : Code} {vs : List Value} {w : World} {R : Ending → World → Prop} {n : Nat}
    (hf : P.funcs[f]? = some fn) (hb : fn.body = some c) (hn : fn.ntmps = n) (hle : vs.length ≤ n)
    (h : ∀ a, Sl n (argSlots 0 vs) a → c.wp P (bodyPost P fn R) a w) : Calls P f vs.toArray w R := by
  refine calls_of_wp hf hb (h _ ⟨rfl, by simp [hn]; omega, ?_⟩)
  intro t v hl
  obtain ⟨_, h2⟩ := look_argSlots vs 0 t v hl
  simp only [Nat.sub_zero] at h2
  have hlt : t < vs.length := (List.getElem?_eq_some_iff.1 h2).1
  simp only [Array.getD_eq_getD_getElem?]
  rw [Array.getElem?_append_left (by simpa using hlt)]
  simp [h2]

/-! ### Operations in a region whose order is fixed -/

def RunV (P : Program) (ρ : Operand → Value) (o : Oper) (w : World) (v : Value) (w' : World) : Prop := (execOp ρ o).run P w = .ok (.value v) w'

def wantB (ops : Array Oper) (L : Slots) (o : Oper) : Option Bool :=
  match o.guard with
  | none => some true
  | some (j, want) => match ops[j]? with
    | none => none
    | some oj => match oj.dst with
      | none => none
      | some d => match look L d with
        | some (.bool b) => some (b == want)
        | some (.tuple _) => some false
        | _ => none

section
variable {P : Program} {ops : Array Oper} {Q : Exit → Act → World → Prop} {rest : List Oper} {o : Oper} {a : Act} {w w' : World} {n : Nat} {L : Slots}

theorem wanted_of (hS : Sl n L a) {b : Bool} (h : wantB ops L o = some b) : Region.wanted o (yielded ops a.tmps) = b := by
  unfold wantB at h
  unfold Region.wanted
  cases hg : o.guard with
  | none => simpa [hg] using h
  | some p =>
    obtain ⟨j, want⟩ := p
    simp only [hg] at h ⊢
    unfold yielded
    cases hj : ops[j]? with
    | none => simp [hj] at h
    | some oj =>
      simp only [hj] at h
      cases hd : oj.dst with
      | none => simp [hd] at h
      | some d =>
        simp only [hd] at h
        simp only [Option.bind_some, hd]
        cases hl : look L d with
        | none => simp [hl] at h
        | some v =>
          have hget := hS.get _ _ hl
          rw [hl] at h
          cases v <;> simp at h
          case tuple vs =>
            subst h
            simp only [Array.getD_eq_getD_getElem?] at hget
            cases hh : a.tmps[d]? with
            | none => rfl
            | some u =>
              simp only [hh, Option.getD_some] at hget
              subst hget
              rfl
          rename_i b'
          simp only [Array.getD_eq_getD_getElem?] at hget
          cases hh : a.tmps[d]? with
          | none => simp [hh, undef] at hget
          | some u =>
            simp only [hh, Option.getD_some] at hget
            subst hget
            simp only
            rw [← h]
            cases b' <;> cases want <;> rfl

theorem st_val (hS : Sl n L a) (hw : wantB ops L o = some true) {d : Nat} (hd : o.dst = some d) (hn : d < n) {v : Value} (hrun : RunV P a.eval o w v w')
    (h : ∀ a', Sl n ((d, v) :: L) a' → wpList P ops Q rest a' w') : wpList P ops Q (o :: rest) a w := by
  unfold wpList
  rw [if_pos (wanted_of hS hw)]
  left
  unfold Oper.wp
  rw [show (execOp a.eval o).run P w = _ from hrun]
  simp only [Oper.upon, hd]
  exact h _ (hS.put hn)

theorem st_skip (hS : Sl n L a) (hw : wantB ops L o = some false) {d : Nat} (hd : o.dst = some d) (hn : d < n)
    (h : ∀ a', Sl n ((d, undef) :: L) a' → wpList P ops Q rest a' w) : wpList P ops Q (o :: rest) a w := by
  unfold wpList
  rw [if_neg (by rw [wanted_of hS hw]; simp)]
  rw [hd]
  exact h _ (hS.put hn)

end
end Go.Proofs.Ytblbimlobacciaa
