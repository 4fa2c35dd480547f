/- Proved here: from a row's readings to the walk. It holds for every program. -/
import Derived.Test.YtblbimlobacciaaK8
namespace Go.Proofs.Ytblbimlobacciaa
open Go Go.RowKit
set_option linter.unusedVariables false
set_option linter.unusedSimpArgs false

/-! ### from the row's readings -/

theorem row_of_ints {H : Type} {enc : TypeId × Value → H} {P : Program} {w : World} {base : Nat} {spare : Nat → Bool} {held : Bool} {t e : TypeId} {k : IntKind} {fuel : Nat} {v : Value} {x : DataW H × List MemPlace} (ht : P.underlying t = some (.slice e)) (he : P.underlying e = some (.int k)) (hc : P.cellsOf e = 1)
    (h : DataW.trod enc P w base spare held fuel t [v] = some x) : ∃ l : List Int, RdRow w v (l.map (Value.int k)) ∧ (∀ n ∈ l, (Lit.int k n).wf = true) ∧ l.length ≤ maxLen := by
  rcases Go.ChangeShapes.open_ints ht he hc h with ⟨hcs, _⟩ | ⟨a, len, cap, zs, hcs, _, hl, hm, hz, _, hcell, hwz⟩
  · simp only [List.cons.injEq, and_true] at hcs
    exact ⟨[], ⟨none, 0, hcs, Nat.le_refl _, .inl rfl⟩, by simp, by simp⟩
  · simp only [List.cons.injEq, and_true] at hcs
    have hlz : len ≤ zs.length := by rw [hz]; split <;> omega
    refine ⟨zs.take len, ⟨some a, cap, by rw [hcs]; simp [hlz], by simp; omega, ?_⟩, fun n hn => hwz n (List.mem_of_mem_take hn), by simp; omega⟩
    by_cases h0 : len = 0
    · left; subst h0; simp
    · right
      obtain ⟨b, off, sp⟩ := a
      have h1 := hcell 0 (by omega)
      have hsp : sp = none := by
        cases sp with
        | none => rfl
        | some q => simp [Addr.add, World.cell?] at h1; split at h1 <;> simp_all
      subst hsp
      refine ⟨b, off, rfl, fun i x hx => ?_⟩
      rw [List.getElem?_map, List.getElem?_take] at hx
      split at hx
      · rename_i hi
        have := hcell i (by omega)
        rw [add0] at this
        rw [this]
        have hi' : i < zs.length := by omega
        simp [List.getElem?_eq_getElem hi'] at hx
        simp [List.getD, hi', hx]
      · simp at hx

theorem Mem.regA {S : Nat → Prop} {w0 w : World} {A R : RL} (h : Mem S w0 w (A ++ R)) (hA : allOwn A = true) : Mem (feet A) w w (A ++ ro R) := by
  have hp := List.pairwise_append.1 h.sep
  have h0 : Mem S w0 w R := ⟨h.fr, fun y hy => h.p y (by simp [hy]), fun y hy => h.own y (by simp [hy]), hp.2.1⟩
  have hr := h0.reg0
  refine ⟨.refl _ _, ?_, ?_, ?_⟩
  · intro y hy
    rcases List.mem_append.1 hy with hy | hy
    · exact h.p _ (by simp [hy])
    · exact hr.p y hy
  · intro y hy ho b hb
    rcases List.mem_append.1 hy with hy | hy
    · exact .inl ⟨_, hy, hb⟩
    · rw [(ro_mem y hy).1] at ho; cases ho
  · refine List.pairwise_append.2 ⟨hp.1, hr.sep, ?_⟩
    intro x hx y hy ho b hb hb'
    obtain ⟨_, z, hz, e⟩ := ro_mem y hy
    rw [← e] at hb'
    exact hp.2.2 x hx z hz (.inl (allOwn_mem hA x hx)) b hb hb'

theorem Mem.getFA {S : Nat → Prop} {w0 w w' : World} {A R : RL} (h : Mem S w0 w (A ++ R)) (hA : allOwn A = true) (i : Nat) {x : Bool × Res} (hi : R[i]? = some x) (hf : Fr (feet A) w w') : x.2.P w' := by
  have hx : x ∈ R := List.mem_of_getElem? hi
  have hp := List.pairwise_append.1 h.sep
  refine x.2.stab w w' (h.p x (by simp [hx])) fun b hb => hf.block b (x.2.inb w b (h.p x (by simp [hx])) hb) ?_
  rintro ⟨z, hz, hzb⟩
  exact hp.2.2 z hz x hx (.inl (allOwn_mem hA z hz)) b hzb hb

theorem Mem.gcons {w : World} {R : RL} {r : Res} (h : Mem Nob w w R) (hr : r.P w) (hro : ∀ x ∈ R, x.1 = false) : Mem Nob w w ((false, r) :: R) := by
  refine ⟨.refl _ _, ?_, ?_, ?_⟩
  · intro x hx
    rcases List.mem_cons.1 hx with rfl | hx
    · exact hr
    · exact h.p x hx
  · intro x hx ho
    rcases List.mem_cons.1 hx with rfl | hx
    · cases ho
    · exact h.own x hx ho
  · refine List.pairwise_cons.2 ⟨fun y hy ho => ?_, h.sep⟩
    rcases ho with ho | ho
    · cases ho
    · rw [hro y hy] at ho; cases ho

theorem walk_of {P : Program} {f : FuncId} {vs : Array Value} {w : World} (h : Calls P f vs w (retPost fun v w' => v = .bool true ∧ Mem Nob w w' [])) : Calls P f vs w fun e w' => e = .returned (.bool true) ∧ Below w.heap.size w w' :=
  Calls.of_ret h fun v w' ⟨hv, hM⟩ => ⟨by rw [hv], hM.fr.below⟩

def I64 (n : Int) : Prop := -9223372036854775808 ≤ n ∧ n ≤ 9223372036854775807
def U8 (n : Int) : Prop := 0 ≤ n ∧ n ≤ 255

theorem wf64 {n : Int} (h : (Lit.int .i64 n).wf = true) : I64 n := by
  simp [Lit.wf, IntKind.min, IntKind.max, IntKind.signed, IntKind.bits] at h
  exact h

theorem wf8 {n : Int} (h : (Lit.int .u8 n).wf = true) : U8 n := by
  simp [Lit.wf, IntKind.min, IntKind.max, IntKind.signed, IntKind.bits] at h
  exact h

end Go.Proofs.Ytblbimlobacciaa
