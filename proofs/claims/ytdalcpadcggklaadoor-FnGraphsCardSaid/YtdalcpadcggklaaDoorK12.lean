/- Proved here: a package-level variable as a resource that is read; what strconv's functions compute. It holds for every program. -/
import Derived.Test.YtdalcpadcggklaaDoorK11
import Derived.Lib.LaidTab
import Derived.Lib.ItoaNum
import Derived.Lib.Atoi
import Derived.Below
namespace Go.Proofs.YtdalcpadcggklaaDoor
open Go Go.RowKit
set_option linter.unusedVariables false
set_option linter.unusedSimpArgs false

/-- A package-level variable that holds what is told. -/
def varR (P : Program) (nm : String) (Q : Array Value → Prop) : Res where
  P := fun w => ∃ cs, w.var? P nm = some cs ∧ Q cs
  foot := fun b => P.globalNamed nm = some b
  stab := by
    rintro w w' ⟨cs, h, hq⟩ hb
    refine ⟨cs, ?_, hq⟩
    unfold World.var? at h ⊢
    cases hg : P.globalNamed nm with
    | none => simp [hg] at h
    | some g =>
      simp only [hg, Option.bind_some] at h ⊢
      rw [hb g hg]
      exact h
  inb := by
    rintro w b ⟨cs, h, hq⟩ hb
    unfold World.var? at h
    simp only [hb, Option.bind_some] at h
    by_cases hlt : b < w.heap.size
    · exact hlt
    · rw [Array.getElem?_eq_none (by omega)] at h
      cases h

def tabR (P : Program) (nm : String) : Res := varR P nm fun cs => cs = (Lib.pow10Tab.map fun z => Value.int .u64 z).toArray
theorem tab_of {P : Program} {nm : String} {w : World} (h : (tabR P nm).P w) : Lib.TabIs P w nm .u64 Lib.pow10Tab := by
  obtain ⟨cs, h, rfl⟩ := h
  exact h
theorem of_tab {P : Program} {nm : String} {w : World} (h : Lib.TabIs P w nm .u64 Lib.pow10Tab) : (tabR P nm).P w := ⟨_, h, rfl⟩

def synR (P : Program) (nm : String) : Res := varR P nm fun cs => ∃ tp p, cs = #[.iface tp p]

theorem fr_below {w w' : World} (h : Below w.heap.size w w') : Fr Nob w w' := ⟨h.os, h.tape, h.output, h.size, fun k hk _ => h.block k hk⟩
theorem mem_below {w w' : World} (h : Below w.heap.size w w') : Mem Nob w w' [] := ⟨fr_below h, by simp, by simp, .nil⟩

def S_strconv_Itoa (F : Nat) (n : Int) : Option (List UInt8) := if -9223372036854775808 ≤ n ∧ n ≤ 9223372036854775807 then some (Lib.itoa n) else none
def S_strconv_Atoi (F : Nat) (s : List UInt8) : Option (Int × Bool) := if s.length ≤ 18 then some (match Lib.atoi s with | some n => (n, true) | none => (0, false)) else none

/-- An error that is nil, or not. -/
def ErrV (ev : Value) : Bool → Prop
  | true => ev = .nilIface
  | false => ∃ t p, ev = .iface t p

section
variable {P : Program} {ρ : Operand → Value} {w : World} {dst : Option Tmp} {ty : TypeId} {pos : String} {af : Array Edge} {gd : Option (Nat × Bool)} {x y : Operand} {xt yt : TypeId} {ev : Value} {b : Bool}

theorem eqI_nil (d : Nat) {ms : Array (String × TypeId)} (ht : P.underlying xt = some (.interface ms)) : (Op.equalIn (d + 1) xt .nilIface .nilIface).run P w = .ok true w := by
  simp [Op.equalIn, run_underlying ht]
theorem eqI_some (d : Nat) {ms : Array (String × TypeId)} {t : TypeId} {p : Value} (ht : P.underlying xt = some (.interface ms)) : (Op.equalIn (d + 1) xt (.iface t p) .nilIface).run P w = .ok false w := by
  simp [Op.equalIn, run_underlying ht]
theorem eq_nil {ms : Array (String × TypeId)} (ht : P.underlying xt = some (.interface ms)) : (Op.equal xt .nilIface .nilIface).run P w = .ok true w := eqI_nil 9999 ht
theorem eq_some {ms : Array (String × TypeId)} {t : TypeId} {p : Value} (ht : P.underlying xt = some (.interface ms)) : (Op.equal xt (.iface t p) .nilIface).run P w = .ok false w := eqI_some 9999 ht
theorem neq_nil {ms : Array (String × TypeId)} (ht : P.underlying xt = some (.interface ms)) : (binOp .neq xt .nilIface .nilIface).run P w = .ok (.bool false) w := by
  simp only [binOp]
  simp [eq_nil ht]
theorem neq_some {ms : Array (String × TypeId)} {t : TypeId} {p : Value} (ht : P.underlying xt = some (.interface ms)) : (binOp .neq xt (.iface t p) .nilIface).run P w = .ok (.bool true) w := by
  simp only [binOp]
  simp [eq_some ht]

theorem rv_err_neq {ms : Array (String × TypeId)} {c : Value} (ht : P.underlying xt = some (.interface ms)) (he : ErrV ev b) (hx : ρ x = ev) (hy : ρ (.const c) = .nilIface) : RunV P ρ ⟨dst, .binOp .neq xt x (.const c) yt, ty, pos, af, gd⟩ w (.bool (!b)) w := by
  cases b with
  | true =>
    obtain rfl : ev = .nilIface := he
    simp [RunV, execOp, hx, hy, eqGuard_nil_constR, neq_nil ht]
  | false =>
    obtain ⟨t, p, rfl⟩ : ∃ t p, ev = .iface t p := he
    simp [RunV, execOp, hx, hy, eqGuard, neq_some ht]
end

end Go.Proofs.YtdalcpadcggklaaDoor
