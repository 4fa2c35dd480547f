/- Proved here: the partial steps of the shallow functions, and small helpers. It holds for every program. -/
import Derived.Test.YtblbimlobacciaaK6
namespace Go.Proofs.Ytblbimlobacciaa
open Go Go.RowKit
set_option linter.unusedVariables false
set_option linter.unusedSimpArgs false

/-! ### partial steps -/

def idxL {α : Type} (l : List α) (i : Int) : Option α := if 0 ≤ i then l[i.toNat]? else none
theorem idxL_some {α : Type} {l : List α} {i : Int} {x : α} (h : idxL l i = some x) : 0 ≤ i ∧ i.toNat < l.length ∧ l[i.toNat]? = some x := by
  unfold idxL at h
  split at h
  · exact ⟨by assumption, (List.getElem?_eq_some_iff.1 h).1, h⟩
  · cases h

def nzO (b : Int) : Option Unit := if b = 0 then none else some ()
theorem nzO_some {b : Int} {u : Unit} (h : nzO b = some u) : b ≠ 0 := by
  intro hb; simp [nzO, hb] at h

def nnO (b : Int) : Option Unit := if b < 0 then none else some ()
theorem nnO_some {b : Int} {u : Unit} (h : nnO b = some u) : 0 ≤ b := by
  unfold nnO at h; split at h
  · cases h
  · omega

def slO (n : Nat) (j : Int) : Option Unit := if 0 ≤ j ∧ j ≤ (n : Int) then some () else none
theorem slO_some {n : Nat} {j : Int} {u : Unit} (h : slO n j = some u) : 0 ≤ j ∧ j ≤ (n : Int) := by
  unfold slO at h; split at h
  · assumption
  · cases h

def sl2O (n : Nat) (i j : Int) : Option Unit := if 0 ≤ i ∧ i ≤ j ∧ j ≤ (n : Int) then some () else none
theorem sl2O_some {n : Nat} {i j : Int} {u : Unit} (h : sl2O n i j = some u) : 0 ≤ i ∧ i ≤ j ∧ j ≤ (n : Int) := by
  unfold sl2O at h; split at h
  · assumption
  · cases h

def catO (a b : Nat) : Option Unit := if a + b < 1099511627776 then some () else none
theorem catO_some {a b : Nat} {u : Unit} (h : catO a b = some u) : a + b < 1099511627776 := by
  unfold catO at h; split at h
  · assumption
  · cases h

def mkO (n : Int) : Option Unit := if 0 ≤ n ∧ n < 1099511627776 then some () else none
theorem mkO_some {n : Int} {u : Unit} (h : mkO n = some u) : 0 ≤ n ∧ n < 1099511627776 := by
  unfold mkO at h; split at h
  · assumption
  · cases h

theorem map_len {α β : Type} {l : List α} {f : α → β} {n : Nat} (h : n < l.length) : n < (l.map f).length := by simpa using h
theorem map_le {α β : Type} {l : List α} {f : α → β} {j : Int} (h : j ≤ (l.length : Int)) : j ≤ ((l.map f).length : Int) := by simpa using h
theorem map_cat {α β γ δ : Type} {l : List α} {m : List γ} {f : α → β} {g : γ → δ} {n : Nat} (h : l.length + m.length < n) : (l.map f).length + (m.map g).length < n := by simpa using h
theorem map_rep {α β : Type} (f : α → β) (n : Nat) (z : α) : List.replicate n (f z) = (List.replicate n z).map f := by simp

theorem Sl.setb {n : Nat} {L : Slots} {a : Act} {t : Nat} {b c : Bool} (h : Sl n L a) (hl : look L t = some (.bool b)) (hc : b = c) : Sl n ((t, .bool c) :: L) a := by
  refine ⟨h.defers, h.size, ?_⟩
  intro s v hs
  simp only [look] at hs
  cases hb : Nat.beq t s with
  | true =>
    have := Nat.eq_of_beq_eq_true hb
    subst this
    simp only [hb, cond_true, Option.some.injEq] at hs
    subst hs
    rw [h.get _ _ hl, hc]
  | false =>
    simp only [hb, cond_false] at hs
    exact h.get _ _ hs

theorem enter2 {P : Program} {f : FuncId} {fn : Func} {c : Code} {vs : List Value} {w : World} {R : Ending → World → Prop} {n : Nat}
    (hf : P.funcs[f]? = some fn) (hb : fn.body = some c) (hn : fn.ntmps = n) (hle : Nat.ble vs.length n = true)
    (h : ∀ (Q : Exit → Act → World → Prop) a, (∀ a w, bodyPost P fn R .ret a w → Q .ret a w) → (∀ a w, bodyPost P fn R .normal a w → Q .normal a w) → (∀ c a a' w, a.defers = a'.defers → Q (.panic c) a w → Q (.panic c) a' w) → Sl n (argSlots 0 vs) a → c.wp P Q a w) : Calls P f vs.toArray w R :=
  enter hf hb hn (Nat.le_of_ble_eq_true hle) fun a hS => h _ a (fun _ _ h => h) (fun _ _ h => h) (fun c a a' w hd h => by obtain ⟨h1, h2⟩ := h; exact ⟨hd ▸ h1, h2⟩) hS

section
variable {S : Nat → Prop} {w0 w w' : World} {R : RL}

/-- One resource, in a world in which another one may have been changed. -/
theorem Mem.getT (h : Mem S w0 w R) (i j : Nat) {x y : Bool × Res} (hi : R[i]? = some x) (hj : R[j]? = some y) (hne : i ≠ j) (hown : x.1 = true ∨ y.1 = true) (hf : Fr y.2.foot w w') : x.2.P w' := by
  obtain ⟨hil, hix⟩ := List.getElem?_eq_some_iff.1 hi
  obtain ⟨hjl, hjx⟩ := List.getElem?_eq_some_iff.1 hj
  have hp := List.pairwise_iff_getElem.1 h.sep
  have hdis : ∀ b, x.2.foot b → ¬ y.2.foot b := by
    intro b hb hb'
    rcases Nat.lt_or_gt_of_ne hne with hlt | hlt
    · have := hp i j hil hjl hlt
      rw [hix, hjx] at this
      exact this hown b hb hb'
    · have := hp j i hjl hil hlt
      rw [hix, hjx] at this
      exact this hown.symm b hb' hb
  exact x.2.stab w w' (h.get i hi) fun b hb => hf.block b (x.2.inb w b (h.get i hi) hb) (hdis b hb)

theorem Mem.cast {R' : RL} (h : Mem S w0 w R) (hr : R = R') : Mem S w0 w R' := hr ▸ h
theorem Mem.drewM (h : Mem S w0 w R) : Mem S w0 w.drew R := h.fra (Fr.drew w)

end

theorem sub_nil {L : Slots} : SubL L [] := trivial
theorem sub_cons {L r : Slots} {t : Nat} {v : Value} (h : look L t = some v) (hr : SubL L r) : SubL L ((t, v) :: r) := ⟨h, hr⟩

section
variable {P : Program} {ρ : Operand → Value} {w : World} {dst : Option Tmp} {ty : TypeId} {pos : String} {af : Array Edge} {gd : Option (Nat × Bool)}
variable {S : Nat → Prop} {w0 : World} {R : RL} {x y : Operand} {u v : Value} {cs : List Value} {k : IntKind} {i : Int} {xt yt e : TypeId} {z : Value} {by8 : Nat}

theorem Mem.boxE {T : TypeId} (h : Mem S w0 w R) (cs : List Value) (hx : ρ x = v) (hv : v.cells = cs.toArray) : ∃ b w', RunV P ρ ⟨dst, .box T x, ty, pos, af, gd⟩ w (fdp b 0) w' ∧ Mem S w0 w' ((true, bx b T cs) :: R) :=
  ⟨_, _, rv_box hx hv, h.box T cs⟩

theorem Mem.allocE {T : TypeId} (h : Mem S w0 w R) {zv : Value} (cs : List Value) (hz : (P.info? T).map (fun i => i.zero) = some (some zv)) (hv : zv.cells = cs.toArray) : ∃ b w', RunV P ρ ⟨dst, .alloc T, ty, pos, af, gd⟩ w (fdp b 0) w' ∧ Mem S w0 w' ((true, bx b T cs) :: R) :=
  ⟨_, _, rv_alloc hz hv, h.box T cs⟩

theorem Mem.addNil (h : Mem S w0 w R) (e : TypeId) : Mem S w0 w ((true, ow e (.slice none 0 0) []) :: R) :=
  h.add (N := [(true, ow e (.slice none 0 0) [])]) (Mem.one (World.ownsRow_nil _ _ _ _) (Fr.refl _ _) (fun b hb => by have : (none : Option Nat) = some b := hb; cases this)) rfl

theorem rd_slHm {α : Type} {f : α → Value} {l : List α} (hr : RdRow w v (l.map f)) {j : Int} (h : j ≤ (l.length : Int)) : RdRow w (slH v j.toNat) ((l.take j.toNat).map f) := by
  have := rd_slH hr (h := j.toNat) (by simp; omega)
  rwa [← List.map_take] at this

theorem rd_slLm {α : Type} {f : α → Value} {l : List α} (hr : RdRow w v (l.map f)) {j : Int} (h : j ≤ (l.length : Int)) : RdRow w (slL v j.toNat) ((l.drop j.toNat).map f) := by
  have := rd_slL hr (l := j.toNat) (by simp; omega)
  rwa [← List.map_drop] at this

theorem Mem.appE {α : Type} {f : α → Value} (hf1 : ∀ a, (f a).oneCell' = true) {l m : List α} {t : TypeId} {xv : Value} (h : Mem S w0 w ((true, ow e v (l.map f)) :: R)) (ht : P.underlying t = some (.slice e)) (he : ElT P e z by8) (hz1 : z.oneCell' = true) (hby : by8 ≤ 24)
    (hx : ρ x = v) (hy : ρ y = xv) (hr : RdRow w xv (m.map f)) (hsz : l.length + m.length < 1099511627776) :
    ∃ v' w', RunV P ρ ⟨dst, .call ⟨.builtin .append, #[x, y], #[t, t]⟩, ty, pos, af, gd⟩ w v' w' ∧ Mem S w0 w' ((true, ow e v' ((l ++ m).map f)) :: R) := by
  obtain ⟨v', w', h1, h2⟩ := h.app (P := P) (ty := ty) ht he hz1 hr (all1_map hf1 m) (map_cat hsz) hby
  refine ⟨v', w', rv_append hx hy h1, ?_⟩
  rw [List.map_append]
  exact h2

theorem Mem.makeE {α : Type} {f : α → Value} {t : TypeId} {n : Int} {c : α} (h : Mem S w0 w R) (ht : P.underlying t = some (.slice e)) (he : ElT P e (f c) by8) (hf1 : ∀ a, (f a).oneCell' = true) (hby : by8 ≤ 24) (hx : ρ x = .int k n) (hy : ρ y = .int k n) (hn : 0 ≤ n ∧ n < 1099511627776) :
    ∃ v' w', RunV P ρ ⟨dst, .makeSlice t x y, ty, pos, af, gd⟩ w v' w' ∧ Mem S w0 w' ((true, ow e v' ((List.replicate n.toNat c).map f)) :: R) := by
  obtain ⟨v', w', h1, h2⟩ := h.make (P := P) (ρ := ρ) (dst := dst) (ty := ty) (pos := pos) (af := af) (gd := gd) ht he (hf1 c) hby hx hy hn.1 hn.2
  exact ⟨v', w', h1, by rw [← map_rep]; exact h2⟩

theorem i64_one (a : Int) : (Value.int IntKind.i64 a).oneCell' = true := rfl
theorem u8_one (a : Int) : (Value.int IntKind.u8 a).oneCell' = true := rfl
theorem str_one (s : List UInt8) : ((fun s => Value.string (bs s)) s).oneCell' = true := rfl
theorem all1_cons {v : Value} {r : List Value} (h : v.oneCell' = true) (hr : ∀ u ∈ r, u.oneCell' = true) : ∀ u ∈ v :: r, u.oneCell' = true := by
  intro u hu
  rcases List.mem_cons.1 hu with rfl | hu
  · exact h
  · exact hr u hu
theorem all1_nil : ∀ u ∈ ([] : List Value), u.oneCell' = true := by intro u hu; cases hu

theorem rv_max2 {a b : Int} {ts : Array TypeId} (hx : ρ x = .int k a) (hy : ρ y = .int k b) : RunV P ρ ⟨dst, .call ⟨.builtin .max, #[x, y], ts⟩, ty, pos, af, gd⟩ w (.int k (if b > a then b else a)) w := by
  simp [RunV, execOp, resolve, invoke, builtin, Builtin.max_, Builtin.max2, hx, hy]

theorem rv_sliceS {s : List UInt8} {lo hi : Option Operand} {i j : Int} {k1 k2 : IntKind} (ht : P.underlying xt = some .string) (hx : ρ x = .string (bs s)) (hlo : lo.map ρ = some (.int k1 i) ∨ (lo = none ∧ i = 0)) (hhi : hi.map ρ = some (.int k2 j) ∨ (hi = none ∧ j = s.length)) (hb : 0 ≤ i ∧ i ≤ j ∧ j ≤ (s.length : Int)) :
    RunV P ρ ⟨dst, .slice xt x lo hi none, ty, pos, af, gd⟩ w (.string (bs ((s.drop i.toNat).take (j.toNat - i.toNat)))) w := by
  obtain ⟨h0, h1, h2⟩ := hb
  have h3 : j ≤ (bs s).size := by rw [bs_size]; exact h2
  have h0j : 0 ≤ j := by omega
  have hjn : (j.toNat : Int) = j := by omega
  have e : (bs s).extract i.toNat j.toNat = bs ((s.drop i.toNat).take (j.toNat - i.toNat)) := by
    apply ByteArray.ext
    simp only [bs, ByteArray.data_extract]
    apply Array.ext'
    simp [List.extract_eq_take_drop]
  rcases hlo with hlo | ⟨rfl, rfl⟩ <;> rcases hhi with hhi | ⟨rfl, rfl⟩
  · simp [RunV, execOp, hx, hlo, hhi, Instr.sliceAt, Instr.slice, run_underlying ht, Instr.sliceBounds, Instr.sliceBound, asIntOf, h0, h0j, h3, h1, e, hjn]
  · have h4 : ((bs s).size : Int) = s.length := by rw [bs_size]
    have h5 : (bs s).size = s.length := bs_size s
    simp at e
    simp [RunV, execOp, hx, hlo, Instr.sliceAt, Instr.slice, run_underlying ht, Instr.sliceBounds, Instr.sliceBound, asIntOf, h0, h1, h5, e]
  · simp at e
    simp [RunV, execOp, hx, hhi, Instr.sliceAt, Instr.slice, run_underlying ht, Instr.sliceBounds, Instr.sliceBound, asIntOf, h0j, h3, e, hjn]
  · have h5 : (bs s).size = s.length := bs_size s
    simp at e
    simp [RunV, execOp, hx, Instr.sliceAt, Instr.slice, run_underlying ht, Instr.sliceBounds, Instr.sliceBound, asIntOf, h5, e]

end
end Go.Proofs.Ytblbimlobacciaa
