/- Proved here: operations that write or make memory. It holds for every program. -/
import Derived.Test.YtblbimlobacciaaK2
namespace Go.Proofs.Ytblbimlobacciaa
open Go Go.RowKit
set_option linter.unusedVariables false
set_option linter.unusedSimpArgs false

def RunU (P : Program) (ρ : Operand → Value) (o : Oper) (w w' : World) : Prop := (execOp ρ o).run P w = .ok .skip w'

theorem st_unit {P : Program} {ops : Array Oper} {Q : Exit → Act → World → Prop} {rest : List Oper} {o : Oper} {a : Act} {w w' : World} {n : Nat} {L : Slots}
    (hS : Sl n L a) (hw : wantB ops L o = some true) (hd : o.dst = none) (hrun : RunU P a.eval o w w')
    (h : wpList P ops Q rest a w') : wpList P ops Q (o :: rest) a w := by
  unfold wpList
  rw [if_pos (wanted_of hS hw)]
  left
  unfold Oper.wp
  rw [show (execOp a.eval o).run P w = _ from hrun]
  simp only [Oper.upon, hd, Act.put]
  exact h

def All1 : List Value → Prop
  | [] => True
  | v :: r => v.oneCell' = true ∧ All1 r

theorem All1.mem : ∀ {vs : List Value}, All1 vs → ∀ v ∈ vs, v.oneCell' = true
  | [], _, _, h => by cases h
  | u :: r, h, v, hv => by
    rcases List.mem_cons.1 hv with rfl | hv
    · exact h.1
    · exact h.2.mem v hv

theorem all1_map {α : Type} {f : α → Value} (hf : ∀ a, (f a).oneCell' = true) (l : List α) : ∀ v ∈ l.map f, v.oneCell' = true := by
  intro v hv
  obtain ⟨a, _, rfl⟩ := List.mem_map.1 hv
  exact hf a

def partsV (L : Slots) : Nat → List (Nat × Operand) → Option (List Value)
  | _, [] => some []
  | k, (i, x) :: r => bif Nat.beq i k then (match opv L x with
    | some v => (match partsV L (k + 1) r with
      | some vs => some (v :: vs)
      | none => none)
    | none => none) else none

theorem partsV_spec {n : Nat} {L : Slots} {a : Act} (hS : Sl n L a) : ∀ (ps : List (Nat × Operand)) (k : Nat) (vs : List Value), partsV L k ps = some vs → ps.map (fun p => (p.1, a.eval p.2)) = (vs.zipIdx k).map (fun p => (p.2, p.1))
  | [], k, vs, h => by simp [partsV] at h; subst h; rfl
  | (i, x) :: r, k, vs, h => by
    simp only [partsV] at h
    cases hb : Nat.beq i k with
    | false => simp [hb] at h
    | true =>
      have hik : i = k := Nat.eq_of_beq_eq_true hb
      subst hik
      simp only [hb, cond_true] at h
      cases hx : opv L x with
      | none => simp [hx] at h
      | some v =>
        simp only [hx] at h
        cases hr : partsV L (i + 1) r with
        | none => simp [hr] at h
        | some us =>
          simp only [hr, Option.some.injEq] at h
          subst h
          have ih := partsV_spec hS r (i + 1) us hr
          simp only [List.map_cons, List.zipIdx_cons, hS.ev hx, ih]

def opvs (L : Slots) : List Operand → Option (List Value)
  | [] => some []
  | x :: r => match opv L x with
    | some v => (match opvs L r with
      | some vs => some (v :: vs)
      | none => none)
    | none => none

theorem opvs_spec {n : Nat} {L : Slots} {a : Act} (hS : Sl n L a) : ∀ (xs : List Operand) (vs : List Value), opvs L xs = some vs → xs.map a.eval = vs
  | [], vs, h => by simp [opvs] at h; subst h; rfl
  | x :: r, vs, h => by
    simp only [opvs] at h
    cases hx : opv L x with
    | none => simp [hx] at h
    | some v =>
      simp only [hx] at h
      cases hr : opvs L r with
      | none => simp [hr] at h
      | some us =>
        simp only [hr, Option.some.injEq] at h
        subst h
        simp [hS.ev hx, opvs_spec hS r us hr]

section
variable {P : Program} {ρ : Operand → Value} {w : World} {dst : Option Tmp} {ty : TypeId} {pos : String} {af : Array Edge} {gd : Option (Nat × Bool)}
variable {S : Nat → Prop} {w0 : World} {R : RL} {x y : Operand} {u v : Value} {cs : List Value} {k : IntKind} {i : Int} {xt yt e : TypeId} {z : Value} {by8 : Nat}

/-! ### stores -/

theorem run_store_bx {b n : Nat} {T : TypeId} {us cs' : List Value} (hb : (bx b T cs).P w) (hn : n + us.length ≤ cs.length) (h1 : ∀ v ∈ us, v.oneCell' = true) (hcs : cs.take n ++ us ++ cs.drop (n + us.length) = cs') :
    ∃ w', (storeCells ⟨b, n, none⟩ us).run P w = .ok () w' ∧ Fr (fun k => k = b) w w' ∧ (bx b T cs').P w' := by
  have hb' : w.heap[b]? = some (.cells cs.toArray T (0, 0)) := hb
  have hr := run_storeCells_at P b n T us 0 cs.toArray w hb' (by simpa using hn) h1
  refine ⟨_, hr, Fr.setRow _ _ _, ?_⟩
  have := setRow_heap w b cs.toArray (cs.toArray.toList.take (n + 0) ++ us ++ cs.toArray.toList.drop (n + 0 + us.length)).toArray T (0, 0) hb'
  subst hcs
  simpa [bx] using this

theorem Mem.st_bx1 {b n : Nat} {T : TypeId} {cs' : List Value} (h : Mem S w0 w ((true, bx b T cs) :: R)) (hx : ρ x = fdp b n) (hy : ρ y = u) (hA : (P.info? xt).map (fun i => i.size) = some 1) (hu : u.oneCell' = true) (hn' : Nat.blt n cs.length = true)
    (hcs : cs.take n ++ [u] ++ cs.drop (n + 1) = cs') : ∃ w', RunU P ρ ⟨dst, .store xt x y, ty, pos, af, gd⟩ w w' ∧ Mem S w0 w' ((true, bx b T cs') :: R) := by
  have hn : n < cs.length := by simpa [Nat.blt_eq] using hn'
  obtain ⟨w', hr, hf, hp⟩ := run_store_bx (P := P) (n := n) (us := [u]) (h.get 0 rfl) (by simp; omega) (by simpa using hu) hcs
  refine ⟨w', ?_, h.upd rfl rfl hf hp (fun b hb => .inl hb)⟩
  cases hi : P.info? xt with
  | none => simp [hi] at hA
  | some inf =>
    simp [hi] at hA
    simp [RunU, execOp, hx, hy, Instr.storeAt, Instr.sureAddr, fdp, storeVar, one_cells hu, sizeOf, typeInfo, hi, hA, hr]

theorem Mem.st_agg {b : Nat} {T : TypeId} {us : List Value} (h : Mem S w0 w ((true, bx b T cs) :: R)) (hx : ρ x = fdp b 0) (hy : ρ y = .agg us.toArray) (hA : (P.info? xt).map (fun i => i.size) = some us.length) (hu : ∀ v ∈ us, v.oneCell' = true) (hn : us.length = cs.length) :
    ∃ w', RunU P ρ ⟨dst, .store xt x y, ty, pos, af, gd⟩ w w' ∧ Mem S w0 w' ((true, bx b T us) :: R) := by
  obtain ⟨w', hr, hf, hp⟩ := run_store_bx (P := P) (n := 0) (us := us) (cs' := us) (h.get 0 rfl) (by simp; omega) hu (by simp [hn])
  refine ⟨w', ?_, h.upd rfl rfl hf hp (fun b hb => .inl hb)⟩
  cases hi : P.info? xt with
  | none => simp [hi] at hA
  | some inf =>
    simp [hi] at hA
    simp [RunU, execOp, hx, hy, Instr.storeAt, Instr.sureAddr, fdp, storeVar, Value.cells, sizeOf, typeInfo, hi, hA, hr]

theorem Mem.st_el {α : Type} {f : α → Value} (hf1 : ∀ a, (f a).oneCell' = true) {l : List α} {n : Nat} {c : α} (h : Mem S w0 w ((true, ow e v (l.map f)) :: R)) (hx : ρ x = elp v n) (hy : ρ y = f c) (hA : (P.info? xt).map (fun i => i.size) = some 1) (hn : n < l.length) :
    ∃ w', RunU P ρ ⟨dst, .store xt x y, ty, pos, af, gd⟩ w w' ∧ Mem S w0 w' ((true, ow e v ((l.set n c).map f)) :: R) := by
  have ho := h.get 0 rfl
  rcases ho.2 with ⟨_, hz⟩ | ⟨g, cap, cur, rfl, h0, hg, hc, hm, hs, ht⟩
  · simp at hz; subst hz; simp at hn
  · have hlen : (l.map f).length = l.length := by simp
    have hncur : n < cur.size := by rw [hs]; simp at hc; omega
    have hr := run_storeCells_at P g n e [f c] 0 cur w hg (by simp; omega) (by simpa using hf1 c)
    refine ⟨w.setRow g (List.take (n + 0) cur.toList ++ [f c] ++ List.drop (n + 0 + [f c].length) cur.toList).toArray, ?_, h.upd (y := (true, ow e (.slice (some ⟨g, 0, none⟩) (l.map f).length cap) ((l.set n c).map f))) rfl rfl ((Fr.setRow w g _).mono (fun k hk => show some g = some k by rw [hk])) ?_ (fun b hb => .inl hb)⟩
    · cases hi : P.info? xt with
      | none => simp [hi] at hA
      | some inf =>
        simp [hi] at hA
        simp only [RunU, execOp, hx, hy, Instr.storeAt, Instr.sureAddr, elp, storeVar, one_cells (hf1 c), sizeOf, typeInfo, Sem.run_bind, Sem.run_pure, run_program, hi, hA, add0, Nat.zero_add, Result.andThen_ok]
        simp only [List.size_toArray, List.length_cons, List.length_nil, ne_eq, Nat.zero_add, not_true_eq_false, ↓reduceIte, hr]
        simp
    · refine ⟨by simp, .inr ⟨g, cap, _, by simp, Nat.zero_le _, setRow_heap w g cur _ e (0, 0) hg, by simpa using hc, hm, ?_, ?_⟩⟩
      · simp; omega
      · simp only [List.map_set, List.length_set, List.length_map, Nat.mul_one, Nat.add_zero, List.length_cons, List.length_nil]
        simp only [List.length_map, Nat.mul_one] at ht hc
        apply List.ext_getElem?
        intro j
        have hj2 : ∀ j, j < l.length → cur.toList[j]? = (l.map f)[j]? := by
          intro j hj
          rw [← ht, List.getElem?_take, if_pos hj]
        by_cases hj : j < l.length
        · rw [List.getElem?_take, if_pos hj, List.getElem?_set]
          simp only [List.getElem?_append, List.length_take, List.length_append, Array.length_toList]
          by_cases hjn : n = j
          · subst hjn
            simp [hj, Nat.min_eq_left (Nat.le_of_lt hncur)]
          · rw [if_neg hjn]
            rcases Nat.lt_or_gt_of_ne hjn with h1 | h1
            · rw [if_neg (by simp; omega), List.getElem?_drop, ← hj2 j hj]
              congr 1
              simp; omega
            · rw [if_pos (by simp; omega), if_pos (by omega), List.getElem?_take, if_pos h1, ← hj2 j hj]
        · rw [List.getElem?_take, if_neg hj]
          rw [List.getElem?_eq_none (by simp; omega)]

end
end Go.Proofs.Ytblbimlobacciaa
