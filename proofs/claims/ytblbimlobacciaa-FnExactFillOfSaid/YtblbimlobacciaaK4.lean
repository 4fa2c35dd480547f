/- Proved here: append, make, literals, slices of slices. It holds for every program. -/
import Derived.Test.YtblbimlobacciaaK3
namespace Go.Proofs.Ytblbimlobacciaa
open Go Go.RowKit
set_option linter.unusedVariables false
set_option linter.unusedSimpArgs false

section
variable {P : Program} {ρ : Operand → Value} {w : World} {dst : Option Tmp} {ty : TypeId} {pos : String} {af : Array Edge} {gd : Option (Nat × Bool)}
variable {S : Nat → Prop} {w0 : World} {R : RL} {x y : Operand} {u v : Value} {cs : List Value} {k : IntKind} {i : Int} {xt yt e : TypeId} {z : Value} {by8 : Nat}

theorem own_grown (w : World) {e : TypeId} {olds news : List Value} {z : Value} (hz1 : z.oneCell' = true) (old : Nat) (hmax : olds.length + news.length ≤ maxLen) :
    (ow e (.slice (some ⟨w.heap.size, 0, none⟩) (olds.length + news.length) (grownCap w (olds.length + news.length) old e)) (olds ++ news)).P
      (w.drew.alloc (.cells (olds.toArray ++ news.toArray ++ Builtin.zeroCells z.cells (grownCap w (olds.length + news.length) old e - (olds.length + news.length))) e)) := by
  have hge := grownCap_ge w (olds.length + news.length) old e
  have hcm : grownCap w (olds.length + news.length) old e ≤ maxLen := grownCap_le_maxLen w _ old e hmax
  refine ⟨by simp, .inr ⟨w.heap.size, _, _, by simp, Nat.zero_le _, heap_alloc_new w.drew _, by simpa using hge, hcm, ?_, ?_⟩⟩
  · simp only [Array.size_append, List.size_toArray, size_zeroCells, one_cells hz1, List.length_cons, List.length_nil]
    omega
  · simp only [Array.toList_append, List.length_append, Nat.mul_one]
    rw [List.take_append_of_le_length (by simp)]
    rw [List.take_of_length_le (by simp)]

/-- append to a row that is owned. -/
theorem Mem.app {xv : Value} {news : List Value} (h : Mem S w0 w ((true, ow e v cs) :: R)) {t : TypeId} (ht : P.underlying t = some (.slice e)) (he : ElT P e z by8) (hz1 : z.oneCell' = true)
    (hx : RdRow w xv news) (h1 : ∀ v ∈ news, v.oneCell' = true) (hsz : cs.length + news.length < 1099511627776) (hby : by8 ≤ 24) :
    ∃ v' w', (Builtin.append_ #[t, t] ty #[v, xv]).run P w = .ok v' w' ∧ Mem S w0 w' ((true, ow e v' (cs ++ news)) :: R) := by
  obtain ⟨inf, hi, hz, hs, hb8⟩ := he.parts
  have ho := h.get 0 rfl
  have hmax : cs.length + news.length ≤ maxLen := by unfold maxLen; omega
  have hbytes : (cs.length + news.length) * inf.bytes ≤ 140737488355328 := by
    rw [hb8]
    have := Nat.mul_le_mul (show cs.length + news.length ≤ 1099511627776 by omega) hby
    omega
  obtain ⟨xa, xc, rfl, hxc, hxr⟩ := hx
  by_cases hn : news = []
  · subst hn
    refine ⟨v, w, ?_, by simpa using h⟩
    rcases ho.2 with ⟨rfl, hz0⟩ | ⟨g, cap, cur, rfl, h0, hg, hc, hm, hs', ht'⟩
    · simp [hz0, Builtin.append_, run_underlying ht, sizeOf, typeInfo, hi, Builtin.lenOf, Builtin.firstCells, loadCells, loadCellsFrom]
      cases xa <;> simp [Builtin.firstCells, loadCells, loadCellsFrom]
    · simp [hc, Builtin.append_, run_underlying ht, sizeOf, typeInfo, hi, Builtin.lenOf, Builtin.firstCells, loadCells, loadCellsFrom, storeCells]
      cases xa <;> simp [Builtin.firstCells, loadCells, loadCellsFrom, storeCells]
  · rcases hxr with hxr | ⟨b, off, rfl, hxr⟩
    · exact absurd hxr hn
    have hpos : 0 < news.length := List.length_pos_iff.2 hn
    have hnews : ∀ j u, news[j]? = some u → w.cell? ((⟨b, off, none⟩ : Addr).add j) = some u := fun j u hj => by rw [add0]; exact hxr j u hj
    have hl : news.length = news.length * inf.size := by rw [hs, Nat.mul_one]
    have fresh : ∀ (R' : RL) (cap : Nat) (o : Obj) (r : Res), r.P (w.drew.alloc o) → (∀ k, r.foot k → k = w.heap.size) → Fr Nob w (w.drew.alloc o) ∧ (∀ k, r.foot k → w.heap.size ≤ k) := by
      intro _ _ o r _ hf
      exact ⟨(Fr.drew w).trans (Fr.alloc w.drew o), fun k hk => by rw [hf k hk]; exact Nat.le_refl _⟩
    rcases ho.2 with ⟨rfl, hz0⟩ | ⟨g, cap, cur, rfl, h0, hg, hc, hm, hs', ht'⟩
    · have hcs : cs = [] := List.eq_nil_of_length_eq_zero hz0
      subst hcs
      have hr := run_append_nil (P := P) w t ty e inf z ht hi hz ⟨b, off, none⟩ news.length xc news hl hnews hpos (by unfold maxLen at hmax; simp at hmax; omega) (by simp at hbytes; omega)
      refine ⟨_, _, hr, h.upd (y := (true, ow e _ ([] ++ news))) rfl rfl (((Fr.drew w).trans (Fr.alloc w.drew _)).mono fun _ x => x.elim) ?_ (fun k hk => .inr ?_)⟩
      · have := own_grown w (e := e) (olds := []) (news := news) (z := z) hz1 0 hmax
        simpa using this
      · have : some w.heap.size = some k := hk
        simp at this; omega
    · by_cases hroom : cs.length + news.length ≤ cap
      · have hfit : cs.length * inf.size + news.length ≤ cur.size := by rw [hs, hs']; omega
        have hr := run_append_room (P := P) w t ty e inf ht hi g cs.length cap cur hg ⟨b, off, none⟩ news.length xc news hl hnews h1 hroom hfit
        refine ⟨_, _, hr, h.upd (y := (true, ow e _ (cs ++ news))) rfl rfl ((Fr.setRow w g _).mono (fun k hk => show some g = some k by rw [hk])) ?_ (fun k hk => .inl hk)⟩
        refine ⟨by simp, .inr ⟨g, cap, _, by simp, Nat.zero_le _, setRow_heap w g cur _ e _ hg, by simpa using hroom, hm, ?_, ?_⟩⟩
        · simp only [List.size_toArray, List.length_append, List.length_take, List.length_drop, Array.length_toList]
          rw [hs] at *
          omega
        · rw [hs]
          rw [ht']
          simp only [List.length_append, Nat.mul_one]
          rw [List.take_append_of_le_length (by simp)]
          rw [List.take_of_length_le (by simp)]
      · have holds := ho.cells (g := g) rfl
        have hr := run_append_grow (P := P) w t ty e inf z ht hi hz ⟨g, 0, none⟩ cs.length cap cs (by rw [hs, Nat.mul_one]) holds ⟨b, off, none⟩ news.length xc news hl hnews (by omega) (by unfold maxLen at hmax; simp at hmax; omega) (growslice_fits (by omega) hbytes)
        refine ⟨_, _, hr, h.upd (y := (true, ow e _ (cs ++ news))) rfl rfl (((Fr.drew w).trans (Fr.alloc w.drew _)).mono fun _ x => x.elim) ?_ (fun k hk => .inr ?_)⟩
        · exact own_grown w (e := e) (olds := cs) (news := news) (z := z) hz1 cap hmax
        · have : some w.heap.size = some k := hk
          simp at this; omega

theorem rv_append {t : TypeId} {xv v' : Value} {w' : World} (hx : ρ x = v) (hy : ρ y = xv) (hr : (Builtin.append_ #[t, t] ty #[v, xv]).run P w = .ok v' w') : RunV P ρ ⟨dst, .call ⟨.builtin .append, #[x, y], #[t, t]⟩, ty, pos, af, gd⟩ w v' w' := by
  simp [RunV, execOp, resolve, invoke, builtin, hx, hy, hr]

/-! ### make -/

theorem madeCells_one {z : Value} (hz : z.oneCell' = true) (n : Nat) : madeCells z.cells n = (List.replicate n z).toArray := by
  rw [one_cells hz]
  unfold madeCells
  apply Array.ext
  · simp
  · intro i h1 h2
    simp [Nat.mod_one]

theorem Mem.make {t : TypeId} {n : Int} (h : Mem S w0 w R) (ht : P.underlying t = some (.slice e)) (he : ElT P e z by8) (hz1 : z.oneCell' = true) (hby : by8 ≤ 24) (hx : ρ x = .int k n) (hy : ρ y = .int k n) (h0 : 0 ≤ n) (h1 : n < 1099511627776) :
    ∃ v' w', RunV P ρ ⟨dst, .makeSlice t x y, ty, pos, af, gd⟩ w v' w' ∧ Mem S w0 w' ((true, ow e v' (List.replicate n.toNat z)) :: R) := by
  obtain ⟨inf, hi, hz, hs, hb8⟩ := he.parts
  have hb : (inf.bytes : Int) * n ≤ 281474976710656 := by
    have : (inf.bytes : Int) ≤ 24 := by omega
    have h2 := Int.mul_le_mul this (Int.le_of_lt h1) h0 (by omega)
    omega
  have hr := run_make (P := P) w t e inf z ht hi hz k k n n h0 (Int.le_refl _) hb (by omega)
  rw [hs, Nat.mul_one, madeCells_one hz1] at hr
  refine ⟨.slice (some ⟨w.heap.size, 0, none⟩) n.toNat n.toNat, w.alloc (.cells (List.replicate n.toNat z).toArray e), by simp [RunV, execOp, hx, hy, hr], ?_⟩
  refine h.add (N := [(true, ow e _ (List.replicate n.toNat z))]) (Mem.one ?_ (Fr.alloc w _) ?_) rfl
  · exact ⟨by simp, .inr ⟨w.heap.size, n.toNat, _, by simp, Nat.zero_le _, heap_alloc_new w _, by simp, by unfold maxLen; omega, by simp, by simp⟩⟩
  · intro b hb'
    have : some w.heap.size = some b := hb'
    simp at this; omega

/-! ### literals -/

theorem fill_seq : ∀ (vs : List Value) (k : Nat) (cur : Array Value), (∀ v ∈ vs, v.oneCell' = true) → k + vs.length = cur.size →
    Instr.fill (fun i => some (i * 1, 1)) cur ((vs.zipIdx k).map (fun p => (p.2, p.1))) = some (cur.toList.take k ++ vs).toArray
  | [], k, cur, _, hk => by
    simp only [List.zipIdx_nil, List.map_nil, Instr.fill, List.append_nil]
    simp at hk
    subst hk
    simp [List.take_of_length_le]
  | v :: r, k, cur, h1, hk => by
    have hv := one_cells (h1 v (by simp))
    simp at hk
    have hk' : k < cur.size := by omega
    simp only [List.zipIdx_cons, List.map_cons, Instr.fill, Nat.mul_one, hv]
    simp only [List.size_toArray, List.length_cons, List.length_nil, Nat.zero_add, ne_eq, not_true_eq_false, decide_false, Bool.false_or]
    rw [if_neg (by simp; omega)]
    have ih := fill_seq r (k + 1) (cur.setIfInBounds k v) (fun u hu => h1 u (by simp [hu])) (by simp; omega)
    have e1 : (List.foldl (fun cs (x : Value × Nat) => cs.setIfInBounds (k + x.2) x.1) cur [v].toArray.zipIdx.toList) = cur.setIfInBounds k v := by simp
    simp only [Nat.mul_one] at ih
    simp [ih]
    rw [List.take_succ_eq_append_getElem (by simpa using hk')]
    simp only [List.take_set, Array.toList_setIfInBounds, List.getElem_set_self, List.append_assoc, List.singleton_append, Array.getElem_toList]
    rw [List.set_eq_of_length_le (by simp; omega)]

theorem Mem.lit {t : TypeId} {n : Nat} {L : Slots} {a : Act} {m : Nat} {ps : List (Nat × Operand)} {vs : List Value} (h : Mem S w0 w R) (hS : Sl m L a) (ht : P.underlying t = some (.slice e)) (he : ElT P e z by8)
    (hv : partsV L 0 ps = some vs) (hn : vs.length = n) (h1 : ∀ v ∈ vs, v.oneCell' = true) (hz1 : z.oneCell' = true) (hlt' : Nat.ble n 1000 = true) :
    ∃ v' w', RunV P a.eval ⟨dst, .buildSlice t n ps.toArray, ty, pos, af, gd⟩ w v' w' ∧ Mem S w0 w' ((true, ow e v' vs) :: R) := by
  obtain ⟨inf, hi, hz, hs, hb8⟩ := he.parts
  have hp := partsV_spec hS ps 0 vs hv
  have hlt : n ≤ 1000 := Nat.le_of_ble_eq_true hlt'
  have hsz : ((Array.range n).map (fun i => #[z][i % 1]!)).size = n := by simp
  have hf : Instr.fill (fun i => some (i * 1, 1)) ((Array.range n).map (fun i => #[z][i % 1]!)) ((vs.zipIdx 0).map (fun p => (p.2, p.1))) = some vs.toArray := by
    have := fill_seq vs 0 ((Array.range n).map (fun i => #[z][i % 1]!)) h1 (by rw [hsz]; omega)
    simpa using this
  have hrun : RunV P a.eval ⟨dst, .buildSlice t n ps.toArray, ty, pos, af, gd⟩ w (.slice (some ⟨w.heap.size, 0, none⟩) n n) (w.alloc (.cells vs.toArray e)) := by
    have hn2 : ¬ (16777216 < n) := by omega
    by_cases h0 : n = 0
    · subst h0
      have : vs = [] := List.eq_nil_of_length_eq_zero hn
      subst this
      have hps : ps = [] := by
        cases ps with
        | nil => rfl
        | cons q r => simp at hp
      subst hps
      simp [RunV, execOp, Instr.buildSlice, run_underlying ht, sizeOf, typeInfo, hi, hs, newRow, Instr.fill, Array.range_zero']
    · have hp' : List.map (fun x => (x.fst, a.eval x.snd)) ps = (vs.zipIdx 0).map (fun p => (p.2, p.1)) := hp
      simp [RunV, execOp, Instr.buildSlice, run_underlying ht, sizeOf, typeInfo, zeroValue, hi, hs, hz, newRow, hn2, h0, one_cells hz1]
      have hf' : Instr.fill (fun i => some (i, 1)) (Array.map (fun x => [z][x % 1]?.getD default) (Array.range n)) (List.map (fun x => (x.fst, a.eval x.snd)) ps) = some vs.toArray := by
        rw [hp']
        have := fill_seq vs 0 (Array.map (fun x => [z][x % 1]?.getD default) (Array.range n)) h1 (by simp; omega)
        simpa using this
      rw [hf']
      simp
  refine ⟨_, _, hrun, ?_⟩
  refine h.add (N := [(true, ow e _ vs)]) (Mem.one ?_ (Fr.alloc w _) ?_) rfl
  · exact ⟨by simp, .inr ⟨w.heap.size, n, _, by simp [hn], Nat.zero_le _, heap_alloc_new w _, by omega, by unfold maxLen; omega, by simp [hn], by simp⟩⟩
  · intro b hb'
    have : some w.heap.size = some b := hb'
    simp at this; omega

end
end Go.Proofs.Ytblbimlobacciaa
