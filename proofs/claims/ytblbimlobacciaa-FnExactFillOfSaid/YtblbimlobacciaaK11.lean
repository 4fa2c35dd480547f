/- Proved here: append to a row cut to its own length, rows compared with nil, a result that may be nil. It holds for every program. -/
import Derived.Test.YtblbimlobacciaaK10
import Derived.Laws.Cover3
namespace Go.Proofs.Ytblbimlobacciaa
open Go Go.RowKit
set_option linter.unusedVariables false
set_option linter.unusedSimpArgs false

section
variable {P : Program} {ρ : Operand → Value} {w : World} {dst : Option Tmp} {ty : TypeId} {pos : String} {af : Array Edge} {gd : Option (Nat × Bool)}
variable {S : Nat → Prop} {w0 : World} {R : RL} {x y y2 : Operand} {u v xv : Value} {cs : List Value} {k k2 : IntKind} {i : Int} {xt yt e : TypeId} {z : Value} {by8 : Nat}

theorem rv_slF {w2 : World} {j : Int} (ht : P.underlying xt = some (.slice e)) (he : ElT P e z by8) (hx : ρ x = v) (hy : ρ y = .int k j) (hy2 : ρ y2 = .int k2 j) (hr : RdRow w2 v cs) (h0 : 0 ≤ j) (h1 : j ≤ cs.length) : RunV P ρ ⟨dst, .slice xt x none (some y) (some y2), ty, pos, af, gd⟩ w (slF v j.toNat) w := by
  obtain ⟨a, cap, rfl, hc, hr⟩ := hr
  obtain ⟨ht', hee⟩ := elem_eq ht
  obtain ⟨inf, hi, _, hs, _⟩ := he.parts
  have := run_slice_hm (P := P) w xt a cs.length cap ht' k k2 j j h0 (by omega) (by omega)
  simp [RunV, execOp, hx, hy, hy2, Instr.sliceAt, run_underlying ht, this, hee, sizeOf, typeInfo, hi, hs, sliced, slF]

theorem rd_slFm {α : Type} {f : α → Value} {l : List α} (hr : RdRow w v (l.map f)) {j : Int} (h : j ≤ (l.length : Int)) : RdRow w (slF v j.toNat) ((l.take j.toNat).map f) := by
  have := rd_slF hr (h := j.toNat) (by simp; omega)
  rwa [← List.map_take] at this

theorem slF_form (hr : RdRow w v cs) {h : Nat} (hh : h ≤ cs.length) : ∃ a, slF v h = .slice a h h := by
  obtain ⟨a, cap, rfl, hc, hr⟩ := hr
  exact ⟨_, rfl⟩

/-- append, to a row without room, of what is not empty: always a new row. -/
theorem Mem.appNew {news : List Value} {a : Option Addr} (h : Mem S w0 w R) {t : TypeId} (ht : P.underlying t = some (.slice e)) (he : ElT P e z by8) (hz1 : z.oneCell' = true)
    (hb : RdRow w (.slice a cs.length cs.length) cs) (hx : RdRow w xv news) (hne : news ≠ []) (hsz : cs.length + news.length < 1099511627776) (hby : by8 ≤ 24) (ha : a = none → cs = []) :
    ∃ v' w', (Builtin.append_ #[t, t] ty #[.slice a cs.length cs.length, xv]).run P w = .ok v' w' ∧ Mem S w0 w' ((true, ow e v' (cs ++ news)) :: R) := by
  obtain ⟨inf, hi, hz, hs, hb8⟩ := he.parts
  have hmax : cs.length + news.length ≤ maxLen := by unfold maxLen; omega
  have hbytes : (cs.length + news.length) * inf.bytes ≤ 140737488355328 := by
    rw [hb8]
    have := Nat.mul_le_mul (show cs.length + news.length ≤ 1099511627776 by omega) hby
    omega
  obtain ⟨xa, xc, rfl, hxc, hxr⟩ := hx
  rcases hxr with hxr | ⟨b, off, rfl, hxr⟩
  · exact absurd hxr hne
  have hpos : 0 < news.length := List.length_pos_iff.2 hne
  have hnews : ∀ j u, news[j]? = some u → w.cell? ((⟨b, off, none⟩ : Addr).add j) = some u := fun j u hj => by rw [add0]; exact hxr j u hj
  have hl : news.length = news.length * inf.size := by rw [hs, Nat.mul_one]
  have hfr : ∀ o : Obj, Fr Nob w (w.drew.alloc o) := fun o => (Fr.drew w).trans (Fr.alloc w.drew o)
  have hfoot : ∀ (l c : Nat) (b : Nat), (ow e (.slice (some ⟨w.heap.size, 0, none⟩) l c) (cs ++ news)).foot b → w.heap.size ≤ b := by
    intro l c b hb
    have : some w.heap.size = some b := hb
    simp at this; omega
  cases a with
  | none =>
    have hcs := ha rfl
    subst hcs
    have hr := run_append_nil (P := P) w t ty e inf z ht hi hz ⟨b, off, none⟩ news.length xc news hl hnews hpos (by unfold maxLen at hmax; simp at hmax; omega) (by simp at hbytes; omega)
    refine ⟨_, _, hr, h.add (Mem.one (x := (true, ow e _ ([] ++ news))) ?_ (hfr _) (fun b hb => hfoot _ _ b hb)) rfl⟩
    have := own_grown w (e := e) (olds := []) (news := news) (z := z) hz1 0 hmax
    simpa using this
  | some ad =>
    have holds : ∀ j u, cs[j]? = some u → w.cell? (ad.add j) = some u := by
      intro j u hj
      obtain ⟨a', cap', e1, _, hh⟩ := hb
      simp at e1
      rcases hh with rfl | ⟨b', off', e2, hh⟩
      · simp at hj
      · rw [← e1.1] at e2
        simp at e2
        subst e2
        rw [add0]; exact hh j u hj
    have hr := run_append_grow (P := P) w t ty e inf z ht hi hz ad cs.length cs.length cs (by rw [hs, Nat.mul_one]) holds ⟨b, off, none⟩ news.length xc news hl hnews (by omega) (by unfold maxLen at hmax; simp at hmax; omega) (growslice_fits (by omega) hbytes)
    refine ⟨_, _, hr, h.add (Mem.one (x := (true, ow e _ (cs ++ news))) ?_ (hfr _) (fun b hb => hfoot _ _ b hb)) rfl⟩
    exact own_grown w (e := e) (olds := cs) (news := news) (z := z) hz1 cs.length hmax

theorem Mem.appF {α : Type} {f : α → Value} (hf1 : ∀ a, (f a).oneCell' = true) {l m : List α} {j : Int} {t : TypeId} (h : Mem S w0 w R) (ht : P.underlying t = some (.slice e)) (he : ElT P e z by8) (hz1 : z.oneCell' = true) (hby : by8 ≤ 24)
    (hx : ρ x = slF v j.toNat) (hr : RdRow w v (l.map f)) (h0 : 0 ≤ j) (h1 : j ≤ (l.length : Int)) (hy : ρ y = xv) (hm : RdRow w xv (m.map f)) (hne : m ≠ []) (hsz : (l.take j.toNat).length + m.length < 1099511627776) :
    ∃ v' w', RunV P ρ ⟨dst, .call ⟨.builtin .append, #[x, y], #[t, t]⟩, ty, pos, af, gd⟩ w v' w' ∧ Mem S w0 w' ((true, ow e v' (List.map f (l.take j.toNat ++ m))) :: R) := by
  have hF := rd_slFm hr h1
  obtain ⟨a, ha⟩ := slF_form hr (h := j.toNat) (by simp; omega)
  have hlen : ((l.take j.toNat).map f).length = j.toNat := by simp; omega
  rw [ha] at hx hF
  rw [← hlen] at hx
  have hF' : RdRow w (.slice a ((l.take j.toNat).map f).length ((l.take j.toNat).map f).length) ((l.take j.toNat).map f) := by rw [hlen]; exact hF
  have hnone : a = none → (l.take j.toNat).map f = [] := by
    intro ha0
    obtain ⟨a', cap', e1, _, hh⟩ := hF'
    simp at e1
    rcases hh with hh | ⟨b', off', e2, _⟩
    · exact hh
    · rw [← e1.1, ha0] at e2; cases e2
  obtain ⟨v', w', h1', h2'⟩ := Mem.appNew (P := P) (ty := ty) (e := e) h ht he hz1 hF' hm (by simpa using hne) (by simpa using hsz) hby hnone
  refine ⟨v', w', rv_append hx hy h1', ?_⟩
  rw [List.map_append]; exact h2'

def neO (n : Nat) : Option Unit := if n = 0 then none else some ()
theorem neO_some {n : Nat} {u : Unit} (h : neO n = some u) : n ≠ 0 := by
  unfold neO at h
  split at h
  · cases h
  · assumption

theorem rv_neq_nil {w2 : World} (ht : P.underlying xt = some (.slice e)) (hx : ρ x = v) (hy : ρ y = .slice none 0 0) {α : Type} {f : α → Value} {l : List α} (hr : RdRow w2 v (l.map f)) (hne : l.length ≠ 0) : RunV P ρ ⟨dst, .binOp .neq xt x y yt, ty, pos, af, gd⟩ w (.bool true) w := by
  obtain ⟨a, cap, rfl, hc, hh⟩ := hr
  rcases hh with hh | ⟨b, off, rfl, _⟩
  · simp at hh; subst hh; simp at hne
  · simp [RunV, execOp, hx, hy, eqGuard, run_neq_slice_nil w xt e _ _ _ ht]
theorem rv_eql_nil {w2 : World} (ht : P.underlying xt = some (.slice e)) (hx : ρ x = v) (hy : ρ y = .slice none 0 0) {α : Type} {f : α → Value} {l : List α} (hr : RdRow w2 v (l.map f)) (hne : l.length ≠ 0) : RunV P ρ ⟨dst, .binOp .eql xt x y yt, ty, pos, af, gd⟩ w (.bool false) w := by
  obtain ⟨a, cap, rfl, hc, hh⟩ := hr
  rcases hh with hh | ⟨b, off, rfl, _⟩
  · simp at hh; subst hh; simp at hne
  · simp [RunV, execOp, hx, hy, eqGuard, binOp, run_equal_slice_nil w xt e _ _ _ ht]
theorem rv_nil_neq (ht : P.underlying xt = some (.slice e)) (hx : ρ x = .slice none 0 0) (hy : ρ y = .slice none 0 0) : RunV P ρ ⟨dst, .binOp .neq xt x y yt, ty, pos, af, gd⟩ w (.bool false) w := by
  simp [RunV, execOp, hx, hy, eqGuard, run_neq_slice_nil w xt e _ _ _ ht]

/-- A result that is nil or a new row. -/
def OptRow (S : Nat → Prop) (w0 w : World) (e : TypeId) (v : Value) : Option (List Int) → Prop
  | none => v = .slice none 0 0 ∧ Mem S w0 w []
  | some l => Mem S w0 w [(true, ow e v (List.map (Value.int IntKind.i64) l))]

end

end Go.Proofs.Ytblbimlobacciaa
