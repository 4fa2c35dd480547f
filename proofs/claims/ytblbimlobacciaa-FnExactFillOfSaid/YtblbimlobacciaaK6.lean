/- Proved here: calls, loops, returns, regions whose order is open. It holds for every program. -/
import Derived.Test.YtblbimlobacciaaK5
namespace Go.Proofs.Ytblbimlobacciaa
open Go Go.RowKit
set_option linter.unusedVariables false
set_option linter.unusedSimpArgs false

/-! ### calls -/

def callOkB (P : Program) (f : FuncId) : Bool :=
  match P.funcs[f]? with
  | none => false
  | some fn => !(fn.name == "runtime.NumGoroutine") && !fn.body.isNone

theorem run_callFunc {P : Program} {f : FuncId} (h : callOkB P f = true) (args : Array Value) (w : World) : (callFunc f args).run P w = .ok (.enter f args) w := by
  unfold callOkB at h
  cases hf : P.funcs[f]? with
  | none => simp [hf] at h
  | some fn =>
    simp [hf] at h
    obtain ⟨h1, h2⟩ := h
    have h2' : ¬ fn.body = none := by intro hb; simp [hb] at h2
    simp [callFunc, hf, h1, h2']

def retPost (K : Value → World → Prop) : Ending → World → Prop
  | .returned v, w => K v w
  | _, _ => False

theorem Calls.of_ret {P : Program} {f : FuncId} {vs : Array Value} {w : World} {K : Value → World → Prop} {R : Ending → World → Prop} (h : Calls P f vs w (retPost K)) (hk : ∀ v w', K v w' → R (.returned v) w') : Calls P f vs w R :=
  h.mono fun e w' he => by cases e <;> first | exact hk _ _ he | exact he.elim

section
variable {P : Program} {ops : Array Oper} {Q : Exit → Act → World → Prop} {rest : List Oper} {a : Act} {w w' : World} {n : Nat} {L : Slots}
variable {ty : TypeId} {pos : String} {af : Array Edge} {gd : Option (Nat × Bool)}

theorem wp_call {o : Oper} (hS : Sl n L a) {d : Nat} {f : FuncId} {args : List Operand} {tys : Array TypeId} (ho : o.op = .call ⟨.value (.func f), args.toArray, tys⟩) (hd : o.dst = some d) (hn : d < n) (hok : callOkB P f = true) {vs : List Value} (hv : opvs L args = some vs)
    {K : Value → World → Prop} (hc : Calls P f vs.toArray w (retPost K)) {N : Act → World → Prop} (h : ∀ v w' a', K v w' → Sl n ((d, v) :: L) a' → N a' w') : o.wp P a w N Q := by
  have hargs : (args.toArray.map a.eval) = vs.toArray := by simp [opvs_spec hS args vs hv]
  have hf : a.eval (.func f) = .func (.func f) #[] #[] := rfl
  unfold Oper.wp
  have hrun : (execOp a.eval o).run P w = .ok (.enter f vs.toArray) w := by
    simp only [execOp, ho, resolve, hf, Deferred.ofValue, hargs]
    simp [invoke, run_callFunc hok]
  rw [hrun]
  simp only [Oper.upon]
  refine hc.mono fun e w' he => ?_
  cases e with
  | returned v => simp only [hd]; exact h v w' _ he (hS.put hn)
  | panicked c => exact he.elim
  | outgrown => exact he.elim

/-- A call of a function value that holds variables. -/
theorem wp_callv {o : Oper} (hS : Sl n L a) {d : Nat} {f : FuncId} {x : Operand} {args : List Operand} {cap : List Value} {tys : Array TypeId} (ho : o.op = .call ⟨.value x, args.toArray, tys⟩) (hx : opv L x = some (.func (.func f) #[] cap.toArray)) (hd : o.dst = some d) (hn : d < n) (hok : callOkB P f = true) {vs : List Value} (hv : opvs L args = some vs)
    {K : Value → World → Prop} (hc : Calls P f (vs ++ cap).toArray w (retPost K)) {N : Act → World → Prop} (h : ∀ v w' a', K v w' → Sl n ((d, v) :: L) a' → N a' w') : o.wp P a w N Q := by
  have hargs : (args.toArray.map a.eval) = vs.toArray := by simp [opvs_spec hS args vs hv]
  unfold Oper.wp
  have hrun : (execOp a.eval o).run P w = .ok (.enter f (vs ++ cap).toArray) w := by
    simp only [execOp, ho, resolve, hS.ev hx, Deferred.ofValue, hargs]
    simp [invoke, run_callFunc hok]
  rw [hrun]
  simp only [Oper.upon]
  refine hc.mono fun e w' he => ?_
  cases e with
  | returned v => simp only [hd]; exact h v w' _ he (hS.put hn)
  | panicked c => exact he.elim
  | outgrown => exact he.elim

/-- An operation by its own rule. -/
theorem st_wp {o : Oper} (hS : Sl n L a) (hw : wantB ops L o = some true) (h : o.wp P a w (wpList P ops Q rest) Q) : wpList P ops Q (o :: rest) a w := by
  unfold wpList
  rw [if_pos (wanted_of hS hw)]
  exact .inl h

theorem wp_val {o : Oper} (hS : Sl n L a) {d : Nat} (hd : o.dst = some d) (hn : d < n) {v : Value} (hrun : RunV P a.eval o w v w') {N : Act → World → Prop}
    (h : ∀ a', Sl n ((d, v) :: L) a' → N a' w') : o.wp P a w N Q := by
  unfold Oper.wp
  rw [show (execOp a.eval o).run P w = _ from hrun]
  simp only [Oper.upon, hd]
  exact h _ (hS.put hn)

theorem wp_unit {o : Oper} (hS : Sl n L a) (hd : o.dst = none) (hrun : RunU P a.eval o w w') {N : Act → World → Prop}
    (h : N a w') : o.wp P a w N Q := by
  unfold Oper.wp
  rw [show (execOp a.eval o).run P w = _ from hrun]
  simp only [Oper.upon, hd, Act.put]
  exact h

theorem cond_t {c : Operand} {x y : Code} (hS : Sl n L a) {b : Bool} (hc : opv L c = some (.bool b)) (hb : b = true) (h : x.wp P Q a w) : (Code.cond c x y).wp P Q a w := wp_cond_true (hS.evb hc hb) h
theorem cond_f {c : Operand} {x y : Code} (hS : Sl n L a) {b : Bool} (hc : opv L c = some (.bool b)) (hb : b = false) (h : y.wp P Q a w) : (Code.cond c x y).wp P Q a w := wp_cond_false (hS.evb hc hb) h

/-! ### the ends of a body -/

theorem ret_1 {fn : Func} {R : Ending → World → Prop} {t : Nat} {v : Value} (hS : Sl n L a) (hres : fn.results = #[.tmp t]) (hv : look L t = some v) (hR : R (.returned v) w) : bodyPost P fn R .ret a w :=
  bodyPost_ret (results_tmp hres _ _ _) hS.defers (by rw [hS.get _ _ hv]; exact hR)

theorem ret_2 {fn : Func} {R : Ending → World → Prop} {t t2 : Nat} {v v2 : Value} (hS : Sl n L a) (hres : fn.results = #[.tmp t, .tmp t2]) (hv : look L t = some v) (hv2 : look L t2 = some v2) (hR : R (.returned (.tuple #[v, v2])) w) : bodyPost P fn R .ret a w :=
  bodyPost_ret (results_tmp2 hres _ _ _) hS.defers (by rw [hS.get _ _ hv, hS.get _ _ hv2]; exact hR)

theorem ret_3 {fn : Func} {R : Ending → World → Prop} {t t2 t3 : Nat} {v v2 v3 : Value} (hS : Sl n L a) (hres : fn.results = #[.tmp t, .tmp t2, .tmp t3]) (hv : look L t = some v) (hv2 : look L t2 = some v2) (hv3 : look L t3 = some v3) (hR : R (.returned (.tuple #[v, v2, v3])) w) : bodyPost P fn R .ret a w := by
  refine bodyPost_ret (v := .tuple #[v, v2, v3]) ?_ hS.defers hR
  simp [results, hres, ← hS.get _ _ hv, ← hS.get _ _ hv2, ← hS.get _ _ hv3]

theorem ret_0 {fn : Func} {R : Ending → World → Prop} (hS : Sl n L a) (hres : fn.results = #[]) (hR : R (.returned (.tuple #[])) w) : bodyPost P fn R .ret a w :=
  bodyPost_ret (results_none hres _ _ _) hS.defers hR

theorem end_0 {fn : Func} {R : Ending → World → Prop} (hS : Sl n L a) (hres : fn.results = #[]) (hR : R (.returned (.tuple #[])) w) : bodyPost P fn R .normal a w :=
  bodyPost_end (results_none hres _ _ _) hS.defers hR

/-- One result, or more, of which some lie in memory: each by its own fact. -/
def RsV (P : Program) (w : World) (L : Slots) : ResultVar → Value → Prop
  | .tmp t, v => look L t = some v
  | .cell t ty, v => ∃ p, look L t = some (.pointer (some p)) ∧ (loadVar ty p).run P w = .ok v w

theorem run_loadAgg {b : Nat} {T xt : TypeId} {cs : List Value} (hA : aggB P xt = some true) (hb : (bx b T cs).P w) (hs : (P.info? xt).map (fun i => i.size) = some cs.length) : (loadVar xt ⟨b, 0, none⟩).run P w = .ok (.agg cs.toArray) w := by
  have := rv_load_agg (P := P) (ρ := fun _ => fdp b 0) (dst := none) (ty := 0) (pos := "") (af := #[]) (gd := none) (x := .tmp 0) (w := w) rfl hA hb hs
  simp only [RunV, execOp, fdp, Instr.loadAt, Instr.sureAddr, Sem.run_bind, Sem.run_pure, Result.andThen_ok] at this
  cases hr : (loadVar xt ⟨b, 0, none⟩).run P w with
  | ok v w' => simp [hr] at this; simp [this]
  | halt h w' => simp [hr] at this

theorem ret_c {fn : Func} {R : Ending → World → Prop} {r : ResultVar} {v : Value} (hS : Sl n L a) (hres : fn.results = #[r]) (hv : RsV P w L r v) (hR : R (.returned v) w) : bodyPost P fn R .ret a w := by
  refine bodyPost_ret (v := v) ?_ hS.defers hR
  cases r with
  | tmp t => simp [results, hres, ← hS.get _ _ hv]
  | cell t ty =>
    obtain ⟨p, hp, hl⟩ := hv
    have := hS.get _ _ hp
    simp only [Array.getD_eq_getD_getElem?] at this
    simp [results, hres, this, asAddr, hl]

theorem ret_cc {fn : Func} {R : Ending → World → Prop} {r r2 : ResultVar} {v v2 : Value} (hS : Sl n L a) (hres : fn.results = #[r, r2]) (hv : RsV P w L r v) (hv2 : RsV P w L r2 v2) (hR : R (.returned (.tuple #[v, v2])) w) : bodyPost P fn R .ret a w := by
  refine bodyPost_ret (v := .tuple #[v, v2]) ?_ hS.defers hR
  cases r with
  | tmp t =>
    have e1 := hS.get _ _ hv
    simp only [Array.getD_eq_getD_getElem?] at e1
    cases r2 with
    | tmp t2 =>
      have e2 := hS.get _ _ hv2
      simp only [Array.getD_eq_getD_getElem?] at e2
      simp [results, hres, e1, e2]
    | cell t2 ty2 =>
      obtain ⟨p2, hp2, hl2⟩ := hv2
      have e2 := hS.get _ _ hp2
      simp only [Array.getD_eq_getD_getElem?] at e2
      simp [results, hres, e1, e2, asAddr, hl2]
  | cell t ty =>
    obtain ⟨p, hp, hl⟩ := hv
    have e1 := hS.get _ _ hp
    simp only [Array.getD_eq_getD_getElem?] at e1
    cases r2 with
    | tmp t2 =>
      have e2 := hS.get _ _ hv2
      simp only [Array.getD_eq_getD_getElem?] at e2
      simp [results, hres, e1, e2, asAddr, hl]
    | cell t2 ty2 =>
      obtain ⟨p2, hp2, hl2⟩ := hv2
      have e2 := hS.get _ _ hp2
      simp only [Array.getD_eq_getD_getElem?] at e2
      simp [results, hres, e1, e2, asAddr, hl, hl2]

end

/-! ### loops -/

theorem wp_loop_sh {P : Program} {Q : Exit → Act → World → Prop} {a : Act} {w : World} {c : Code} {σ β : Type} (body : σ → Option (σ ⊕ β)) (Rep : σ → Act → World → Prop) {s0 : σ} {r : β} {m : Nat} (hr : loopN body m s0 = some r) (h0 : Rep s0 a w)
    (round : ∀ (K : Act → World → Prop) s a w res, Rep s a w → body s = some res → (∀ s' a' w', res = .inl s' → Rep s' a' w' → K a' w') → (∀ b, res = .inr b → b = r) → c.wp P (Exit.then K Q) a w) : (Code.loop c).wp P Q a w := by
  refine wp_loop_ghost (fun k a w => ∃ s, loopN body k s = some r ∧ Rep s a w) m ⟨s0, hr, h0⟩ ?_
  rintro k a w ⟨s, hs, hrep⟩
  cases k with
  | zero => simp [loopN] at hs
  | succ k =>
    simp only [loopN] at hs
    cases hb : body s with
    | none => simp [hb] at hs
    | some res =>
      simp only [hb] at hs
      refine round _ s a w res hrep hb ?_ ?_
      · intro s' a' w' he hr'
        subst he
        exact ⟨k, Nat.lt_succ_self k, s', hs, hr'⟩
      · intro b he
        subst he
        simpa using hs

/-! ### a region whose order is open -/

section
variable {P : Program} {ops : Array Oper} {Q : Exit → Act → World → Prop} {a : Act} {w w' : World} {n : Nat} {L : Slots} {C : World → Prop} {fuel : Nat} {listed : Array Bool}

theorem an_start {id : Nat} (T : Nat → Prop) (hm : P.follows .mixedOrders = true) (h : ∀ wb, Fr Nob w wb → wpAnyH P .any ops Q (Fr T wb) ops.size (Array.replicate ops.size false) a wb) : (Code.region id ops true).wp P Q a w := wp_region_held hm (h w.drew (Fr.drew w))

/-- Number i is taken first. -/
theorem an_take (hS : Sl n L a) {i : Nat} {oi : Oper} (hi : ops[i]? = some oi) (hs : Region.noSelect ops = true) (hf : Region.free .any ops listed i = true) (hr : (Region.ready .any ops listed).contains i = true)
    {d : Nat} (hd : oi.dst = some d) (hn : d < n) (hQ : ∀ c a a' w, a.defers = a'.defers → Q (.panic c) a w → Q (.panic c) a' w) (hw : wantB ops L oi = some true) {v : Value} (hrun : ∀ w', C w' → RunV P a.eval oi w' v w') (hC : C w)
    (h : ∀ a', Sl n ((d, v) :: L) a' → wpAnyH P .any ops Q C fuel (listed.setIfInBounds i true) a' w) : wpAnyH P .any ops Q C (fuel + 1) listed a w := by
  refine wpAnyH_take hi hs hf hr (fun c a w hq => hQ c _ _ w (by rw [hd]; rfl) hq) (.inl ⟨wanted_of hS hw, fun w' hw' => hrun w' hw'⟩) hC ?_
  rw [hd]
  exact h _ (hS.put hn)

theorem an_skip (hS : Sl n L a) {i : Nat} {oi : Oper} (hi : ops[i]? = some oi) (hs : Region.noSelect ops = true) (hf : Region.free .any ops listed i = true) (hr : (Region.ready .any ops listed).contains i = true)
    {d : Nat} (hd : oi.dst = some d) (hn : d < n) (hQ : ∀ c a a' w, a.defers = a'.defers → Q (.panic c) a w → Q (.panic c) a' w) (hw : wantB ops L oi = some false) (hC : C w)
    (h : ∀ a', Sl n ((d, undef) :: L) a' → wpAnyH P .any ops Q C fuel (listed.setIfInBounds i true) a' w) : wpAnyH P .any ops Q C (fuel + 1) listed a w := by
  refine wpAnyH_take hi hs hf hr (fun c a w hq => hQ c _ _ w (by rw [hd]; rfl) hq) (.inr ⟨wanted_of hS hw, rfl⟩) hC ?_
  rw [hd]
  exact h _ (hS.put hn)

/-- The one that may come up comes up. -/
theorem an_one (hS : Sl n L a) {i : Nat} {oi : Oper} (hi : ops[i]? = some oi) (hr : Region.ready .any ops listed = [i]) (hw : wantB ops L oi = some true)
    (h : oi.wp P a w (fun a' w' => C w' ∧ wpAnyH P .any ops Q C fuel (listed.setIfInBounds i true) a' w') Q) : wpAnyH P .any ops Q C (fuel + 1) listed a w := by
  refine wpAnyH_all hr (by simp) ?_
  intro j hj
  simp at hj
  subst hj
  unfold wpOp
  simp only [hi, wanted_of hS hw, if_true]
  exact .inl h

/-- Two may come up. -/
theorem an_two (hS : Sl n L a) {i j : Nat} {oi oj : Oper} (hi : ops[i]? = some oi) (hj : ops[j]? = some oj) (hr : Region.ready .any ops listed = [i, j]) (hw : wantB ops L oi = some true) (hw2 : wantB ops L oj = some true)
    (h : oi.wp P a w (fun a' w' => C w' ∧ wpAnyH P .any ops Q C fuel (listed.setIfInBounds i true) a' w') Q)
    (h2 : oj.wp P a w (fun a' w' => C w' ∧ wpAnyH P .any ops Q C fuel (listed.setIfInBounds j true) a' w') Q) : wpAnyH P .any ops Q C (fuel + 1) listed a w := by
  refine wpAnyH_all hr (by simp) ?_
  intro k hk
  simp at hk
  unfold wpOp
  rcases hk with rfl | rfl
  · simp only [hi, wanted_of hS hw, if_true]
    exact .inl h
  · simp only [hj, wanted_of hS hw2, if_true]
    exact .inl h2

theorem an_done (hr : Region.ready .any ops listed = []) (h : Q .normal a w) : wpAnyH P .any ops Q C fuel listed a w := wpAnyH_done hr h _

end
end Go.Proofs.Ytblbimlobacciaa
