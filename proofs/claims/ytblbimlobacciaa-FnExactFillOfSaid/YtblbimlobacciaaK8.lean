/- Proved here: small forms that the printed walks use. It holds for every program. -/
import Derived.Test.YtblbimlobacciaaK7
namespace Go.Proofs.Ytblbimlobacciaa
open Go Go.RowKit
set_option linter.unusedVariables false
set_option linter.unusedSimpArgs false

section
variable {P : Program} {Q : Exit → Act → World → Prop} {a : Act} {w : World} {n : Nat} {L : Slots} {fn : Func} {K : Value → World → Prop}

theorem r_0 (hS : Sl n L a) (hres : fn.results = #[]) (hR : K (.tuple #[]) w) : bodyPost P fn (retPost K) .ret a w := ret_0 hS hres hR
theorem e_0 (hS : Sl n L a) (hres : fn.results = #[]) (hR : K (.tuple #[]) w) : bodyPost P fn (retPost K) .normal a w := end_0 hS hres hR
theorem r_1 {t : Nat} {v : Value} (hS : Sl n L a) (hres : fn.results = #[.tmp t]) (hv : look L t = some v) (hR : K v w) : bodyPost P fn (retPost K) .ret a w := ret_1 hS hres hv hR
theorem r_2 {t t2 : Nat} {v v2 : Value} (hS : Sl n L a) (hres : fn.results = #[.tmp t, .tmp t2]) (hv : look L t = some v) (hv2 : look L t2 = some v2) (hR : K (.tuple #[v, v2]) w) : bodyPost P fn (retPost K) .ret a w := ret_2 hS hres hv hv2 hR
theorem r_3 {t t2 t3 : Nat} {v v2 v3 : Value} (hS : Sl n L a) (hres : fn.results = #[.tmp t, .tmp t2, .tmp t3]) (hv : look L t = some v) (hv2 : look L t2 = some v2) (hv3 : look L t3 = some v3) (hR : K (.tuple #[v, v2, v3]) w) : bodyPost P fn (retPost K) .ret a w := ret_3 hS hres hv hv2 hv3 hR
theorem r_c {r : ResultVar} {v : Value} (hS : Sl n L a) (hres : fn.results = #[r]) (hv : RsV P w L r v) (hR : K v w) : bodyPost P fn (retPost K) .ret a w := ret_c hS hres hv hR
theorem r_cc {r r2 : ResultVar} {v v2 : Value} (hS : Sl n L a) (hres : fn.results = #[r, r2]) (hv : RsV P w L r v) (hv2 : RsV P w L r2 v2) (hR : K (.tuple #[v, v2]) w) : bodyPost P fn (retPost K) .ret a w := ret_cc hS hres hv hv2 hR

theorem rv_nilCheck {ρ : Operand → Value} {dst : Option Tmp} {ty : TypeId} {pos : String} {af : Array Edge} {gd : Option (Nat × Bool)} {x : Operand} {b o : Nat} (hx : ρ x = fdp b o) : RunV P ρ ⟨dst, .nilCheck x, ty, pos, af, gd⟩ w (fdp b o) w := by
  simp [RunV, execOp, hx, fdp]

theorem rv_makeFunc {dst : Option Tmp} {ty : TypeId} {pos : String} {af : Array Edge} {gd : Option (Nat × Bool)} {f : Fn} {caps : List Operand} {vs : List Value} (hS : Sl n L a) (hv : opvs L caps = some vs) : RunV P a.eval ⟨dst, .makeFunc f #[] caps.toArray, ty, pos, af, gd⟩ w (.func f #[] vs.toArray) w := by
  simp [RunV, execOp, Instr.makeFunc, opvs_spec hS caps vs hv]

theorem ones_nil {ρ : Operand → Value} : ∀ p ∈ ([] : List (Nat × Operand)), (ρ p.2).oneCell' = true := by intro p hp; cases hp
theorem ones_cons {ρ : Operand → Value} {p : Nat × Operand} {ps : List (Nat × Operand)} (h : (ρ p.2).oneCell' = true) (hr : ∀ q ∈ ps, (ρ q.2).oneCell' = true) : ∀ q ∈ p :: ps, (ρ q.2).oneCell' = true := by
  intro q hq
  rcases List.mem_cons.1 hq with rfl | hq
  · exact h
  · exact hr q hq

theorem rv_len_rowM {α : Type} {f : α → Value} {l : List α} {ρ : Operand → Value} {dst : Option Tmp} {ty : TypeId} {pos : String} {af : Array Edge} {gd : Option (Nat × Bool)} {x : Operand} {v : Value} {e ts : TypeId} {w2 : World} (ht : P.underlying ts = some (.slice e)) (hx : ρ x = v) (hr : RdRow w2 v (l.map f)) : RunV P ρ ⟨dst, .call ⟨.builtin .len, #[x], #[ts]⟩, ty, pos, af, gd⟩ w (.int .i64 (l.length : Int)) w := by
  have := rv_len_row (P := P) (ρ := ρ) (w := w) (dst := dst) (ty := ty) (pos := pos) (af := af) (gd := gd) ht hx hr
  simpa using this

theorem Mem.litE {α : Type} {f : α → Value} {S : Nat → Prop} {w0 : World} {R : RL} {dst : Option Tmp} {ty : TypeId} {pos : String} {af : Array Edge} {gd : Option (Nat × Bool)} {t e : TypeId} {z : Value} {by8 k : Nat} {ps : List (Nat × Operand)} (l : List α) (hf1 : ∀ a, (f a).oneCell' = true) (h : Mem S w0 w R) (hS : Sl n L a) (ht : P.underlying t = some (.slice e)) (he : ElT P e z by8)
    (hv : partsV L 0 ps = some (l.map f)) (hn : l.length = k) (hz1 : z.oneCell' = true) (hlt : Nat.ble k 1000 = true) :
    ∃ v' w', RunV P a.eval ⟨dst, .buildSlice t k ps.toArray, ty, pos, af, gd⟩ w v' w' ∧ Mem S w0 w' ((true, ow e v' (l.map f)) :: R) :=
  h.lit hS ht he hv (by simpa using hn) (all1_map hf1 l) hz1 hlt

theorem weaks_nil : Weaks [] [] := trivial
theorem weaks_cons {x y : Bool × Res} {r s : RL} (h : (∀ w, x.2.P w → y.2.P w) ∧ (∀ b, y.2.foot b → x.2.foot b) ∧ y.1 = false) (hr : Weaks r s) : Weaks (x :: r) (y :: s) := ⟨h, hr⟩

end

section
variable {S : Nat → Prop} {w0 w w' : World} {R : RL}

def ro : RL → RL
  | [] => []
  | x :: r => (false, x.2) :: ro r

theorem ro_mem : ∀ {R : RL}, ∀ x ∈ ro R, x.1 = false ∧ ∃ y ∈ R, y.2 = x.2
  | [], _, h => by cases h
  | y :: r, x, h => by
    rcases List.mem_cons.1 h with rfl | h
    · exact ⟨rfl, y, by simp, rfl⟩
    · obtain ⟨h1, z, hz, h2⟩ := ro_mem x h
      exact ⟨h1, z, by simp [hz], h2⟩

theorem Mem.reg0 (h : Mem S w0 w R) : Mem Nob w w (ro R) := by
  refine ⟨.refl _ _, ?_, ?_, ?_⟩
  · intro x hx
    obtain ⟨_, y, hy, e⟩ := ro_mem x hx
    rw [← e]; exact h.p y hy
  · intro x hx ho
    rw [(ro_mem x hx).1] at ho; cases ho
  · rw [List.pairwise_iff_forall_sublist]
    intro x y hxy ho
    have hx := ro_mem x (hxy.subset (by simp))
    have hy := ro_mem y (hxy.subset (by simp))
    rcases ho with ho | ho
    · rw [hx.1] at ho; cases ho
    · rw [hy.1] at ho; cases ho

theorem Mem.reg1 {x : Bool × Res} (h : Mem S w0 w (x :: R)) (hx : x.1 = true) : Mem (feet [x]) w w (x :: ro R) := by
  have hp := List.pairwise_cons.1 h.sep
  have h0 : Mem S w0 w R := ⟨h.fr, fun y hy => h.p y (by simp [hy]), fun y hy => h.own y (by simp [hy]), hp.2⟩
  have hr := h0.reg0
  refine ⟨.refl _ _, ?_, ?_, ?_⟩
  · intro y hy
    rcases List.mem_cons.1 hy with rfl | hy
    · exact h.p _ (by simp)
    · exact hr.p y hy
  · intro y hy ho b hb
    rcases List.mem_cons.1 hy with rfl | hy
    · exact .inl ⟨_, by simp, hb⟩
    · rw [(ro_mem y hy).1] at ho; cases ho
  · refine List.pairwise_cons.2 ⟨?_, hr.sep⟩
    intro y hy ho b hb hb'
    obtain ⟨_, z, hz, e⟩ := ro_mem y hy
    rw [← e] at hb'
    exact hp.1 z hz (.inl hx) b hb hb'

theorem Mem.getF {y : Bool × Res} (h : Mem S w0 w (y :: R)) (hy : y.1 = true) (i : Nat) {x : Bool × Res} (hi : R[i]? = some x) (hf : Fr (feet [y]) w w') : x.2.P w' := by
  have hx : x ∈ R := List.mem_of_getElem? hi
  have hp := (List.pairwise_cons.1 h.sep).1 x hx (.inl hy)
  refine x.2.stab w w' (h.p x (by simp [hx])) fun b hb => hf.block b (x.2.inb w b (h.p x (by simp [hx])) hb) ?_
  rintro ⟨z, hz, hzb⟩
  simp at hz
  subst hz
  exact hp b hzb hb

theorem Mem.memS {T : Nat → Prop} (h : Mem S w0 w R) (hs : ∀ b, S b → T b) : Mem T w0 w R :=
  ⟨h.fr.mono hs, h.p, fun x hx ho b hb => (h.own x hx ho b hb).imp (hs b) id, h.sep⟩

theorem Mem.rcons {v : Value} {cs : List Value} (h : Mem Nob w w R) (hr : RdRow w v cs) (hro : ∀ x ∈ R, x.1 = false) : Mem Nob w w ((false, rd v cs) :: R) := by
  refine ⟨.refl _ _, ?_, ?_, ?_⟩
  · intro x hx
    rcases List.mem_cons.1 hx with rfl | hx
    · exact hr
    · exact h.p x hx
  · intro x hx ho
    rcases List.mem_cons.1 hx with rfl | hx
    · cases ho
    · exact h.own x hx ho
  · refine List.pairwise_cons.2 ⟨?_, h.sep⟩
    intro y hy ho
    rcases ho with ho | ho
    · cases ho
    · rw [hro y hy] at ho; cases ho

end

end Go.Proofs.Ytblbimlobacciaa
