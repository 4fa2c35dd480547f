/- Proved here: from a row's readings to the walk. It holds for every program. -/
import Derived.Test.YtpafmmdilnbaeaaK8
namespace Go.Proofs.Ytpafmmdilnbaeaa
open Go Go.RowKit
set_option linter.unusedVariables false
set_option linter.unusedSimpArgs false

/-! ### from the row's readings -/

theorem row_of_ints {H : Type} {enc : TypeId × Value → H} {P : Program} {w : World} {base : Nat} {spare : Nat → Bool} {held : Bool} {t e : TypeId} {k : IntKind} {fuel : Nat} {v : Value} {x : DataW H × List MemPlace} (ht : P.underlying t = some (.slice e)) (he : P.underlying e = some (.int k)) (hc : P.cellsOf e = 1)
    (h : DataW.trod enc P w base spare held fuel t [v] = some x) : ∃ l : List Int, RdRow w v (l.map (Value.int k)) ∧ (∀ n ∈ l, (Lit.int k n).wf = true) ∧ l.length ≤ maxLen := by
  rcases Go.ChangeShapes.open_ints ht he hc h with ⟨hcs, _⟩ | ⟨a, len, cap, zs, hcs, _, hl, hm, hz, _, hcell, hwz⟩
  · simp only [List.cons.injEq, and_true] at hcs
    exact ⟨[], ⟨none, 0, hcs, Nat.le_refl _, .inl rfl⟩, by simp, by simp⟩
  · simp only [List.cons.injEq, and_true] at hcs
    have hlz : len ≤ zs.length := by rw [hz]; split <;> omega
    refine ⟨zs.take len, ⟨some a, cap, by rw [hcs]; simp [hlz], by simp; omega, ?_⟩, fun n hn => hwz n (List.mem_of_mem_take hn), by simp; omega⟩
    by_cases h0 : len = 0
    · left; subst h0; simp
    · right
      obtain ⟨b, off, sp⟩ := a
      have h1 := hcell 0 (by omega)
      have hsp : sp = none := by
        cases sp with
        | none => rfl
        | some q => simp [Addr.add, World.cell?] at h1; split at h1 <;> simp_all
      subst hsp
      refine ⟨b, off, rfl, fun i x hx => ?_⟩
      rw [List.getElem?_map, List.getElem?_take] at hx
      split at hx
      · rename_i hi
        have := hcell i (by omega)
        rw [add0] at this
        rw [this]
        have hi' : i < zs.length := by omega
        simp [List.getElem?_eq_getElem hi'] at hx
        simp [List.getD, hi', hx]
      · simp at hx

theorem walk_of {P : Program} {f : FuncId} {vs : Array Value} {w : World} (h : Calls P f vs w (retPost fun v w' => v = .bool true ∧ Mem Nob w w' [])) : Calls P f vs w fun e w' => e = .returned (.bool true) ∧ Below w.heap.size w w' :=
  Calls.of_ret h fun v w' ⟨hv, hM⟩ => ⟨by rw [hv], hM.fr.below⟩

def I64 (n : Int) : Prop := -9223372036854775808 ≤ n ∧ n ≤ 9223372036854775807
def U8 (n : Int) : Prop := 0 ≤ n ∧ n ≤ 255

theorem wf64 {n : Int} (h : (Lit.int .i64 n).wf = true) : I64 n := by
  simp [Lit.wf, IntKind.min, IntKind.max, IntKind.signed, IntKind.bits] at h
  exact h

theorem wf8 {n : Int} (h : (Lit.int .u8 n).wf = true) : U8 n := by
  simp [Lit.wf, IntKind.min, IntKind.max, IntKind.signed, IntKind.bits] at h
  exact h

end Go.Proofs.Ytpafmmdilnbaeaa
