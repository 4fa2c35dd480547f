/- Proved here: rows of rows that are passed over from front to back, each inner row taken out once. It holds for every program. -/
import Derived.Test.YtblbimlobacciaaK11
import Derived.Laws.BitsLemmas
namespace Go.Proofs.Ytblbimlobacciaa
open Go Go.RowKit
set_option linter.unusedVariables false
set_option linter.unusedSimpArgs false

/-- Rows of rows in passing: the outer row, and the inner rows from i on. -/
def tl (e e2 : TypeId) (v : Value) (hs : List Value) (ls : List (List Value)) (i : Int) : Res where
  P := fun w => (ow e v hs).P w ∧ hs.length = ls.length ∧ FamP e2 w (hs.drop i.toNat) (ls.drop i.toNat) ∧ ∀ b, v.ownBlock = some b → ∀ g, g ∈ hs.drop i.toNat → g.ownBlock ≠ some b
  foot := fun b => v.ownBlock = some b ∨ ∃ h, h ∈ hs.drop i.toNat ∧ h.ownBlock = some b
  stab := fun w w' ⟨h1, h0, h2, h3⟩ hb => ⟨(ow e v hs).stab w w' h1 fun b hf => hb b (.inl hf), h0, h2.stab fun b hf => hb b (.inr hf), h3⟩
  inb := fun w b ⟨h1, _, h2, _⟩ hb => hb.elim (fun hf => (ow e v hs).inb w b h1 hf) (fun hf => h2.inb b hf)

section
variable {S : Nat → Prop} {w0 w : World} {R : RL} {e e2 : TypeId} {v : Value} {hs : List Value} {ls : List (List Value)} {i : Int}

theorem Mem.tlIn (h : Mem S w0 w ((true, mx e e2 v hs ls) :: R)) : Mem S w0 w ((true, tl e e2 v hs ls 0) :: R) := by
  obtain ⟨p1, p2, p3⟩ : (mx e e2 v hs ls).P w := h.get 0 rfl
  have h' : Mem S w0 w ([(true, mx e e2 v hs ls)] ++ R) := h
  refine h'.conv (A' := [(true, tl e e2 v hs ls 0)]) rfl rfl ?_ ?_ (by simp)
  · intro x hx
    simp at hx
    subst hx
    exact ⟨p1, p2.len, by simpa using p2, by simpa using p3⟩
  · rintro b ⟨x, hx, hb⟩
    simp at hx
    subst hx
    refine ⟨(true, mx e e2 v hs ls), by simp, ?_⟩
    have hb' : v.ownBlock = some b ∨ ∃ h, h ∈ hs.drop (0 : Int).toNat ∧ h.ownBlock = some b := hb
    simp at hb'
    exact hb'

theorem Mem.addNilMx (h : Mem S w0 w R) (e e2 : TypeId) : Mem S w0 w ((true, mx e e2 (.slice none 0 0) [] []) :: R) := by
  have h1 := h.addNil e
  have h2 := Mem.famNil (e := e2) h1
  exact h2.swap.mxJoin

theorem tl_rd (h : (tl e e2 v hs ls i).P w) : RdRow w v hs := rd_of_ow h.1
theorem tl_len (h : (tl e e2 v hs ls i).P w) : hs.length = ls.length := h.2.1
theorem tl_get {j : Nat} {l : List Value} (h : (tl e e2 v hs ls i).P w) (hl : ls[j]? = some l) : ∃ g, hs[j]? = some g := by
  have hi : j < ls.length := (List.getElem?_eq_some_iff.1 hl).1
  rw [← tl_len h] at hi
  exact ⟨hs[j], List.getElem?_eq_getElem hi⟩
theorem tl_row {g : Value} {l : List Value} (h : (tl e e2 v hs ls i).P w) (hg : hs[i.toNat]? = some g) (hl : ls[i.toNat]? = some l) : RdRow w g l :=
  rd_of_ow (h.2.2.1.get (i := 0) (by rw [List.getElem?_drop]; simpa using hg) (by rw [List.getElem?_drop]; simpa using hl))

theorem tl_lt {α : Type} {f : α → List Value} {l : List α} {j : Nat} (h : (tl e e2 v hs (l.map f) i).P w) (hj : j < l.length) : j < hs.length := by
  rw [tl_len h]; simpa using hj

theorem tl_next (h : (tl e e2 v hs ls i).P w) (h0 : 0 ≤ i) {l : List Value} (hl : ls[i.toNat]? = some l) : (IntKind.i64.wrap (i + 1)).toNat = i.toNat + 1 := by
  have hi : i.toNat < ls.length := (List.getElem?_eq_some_iff.1 hl).1
  have hb : ls.length ≤ maxLen := by
    rw [← tl_len h]
    obtain ⟨_, q⟩ : w.ownsRow 0 e 1 v hs.length hs := h.1
    rcases q with ⟨_, q⟩ | ⟨g, cap, cur, _, _, _, q1, q2, _⟩
    · rw [q]; exact Nat.zero_le _
    · exact Nat.le_trans q1 q2
  have hm : maxLen ≤ 9223372036854775807 := by decide
  have hw : IntKind.i64.wrap (i + 1) = i + 1 := by simp only [IntKind.wrap_i64]; omega
  rw [hw]
  omega

/-- The row at hand taken out; the others stay. -/
theorem Mem.tlTake {g : Value} {l : List Value} (h : Mem S w0 w ((true, tl e e2 v hs ls i) :: R)) (h0 : 0 ≤ i) (hg : hs[i.toNat]? = some g) (hl : ls[i.toNat]? = some l) : Mem S w0 w ((true, ow e2 g l) :: (true, tl e e2 v hs ls (IntKind.i64.wrap (i + 1))) :: R) := by
  have hP : (tl e e2 v hs ls i).P w := h.get 0 rfl
  have hn := tl_next hP h0 hl
  obtain ⟨p1, p2, p3, p4⟩ := hP
  obtain ⟨hgi, hge⟩ := List.getElem?_eq_some_iff.1 hg
  obtain ⟨hli, hle⟩ := List.getElem?_eq_some_iff.1 hl
  have ehs : hs.drop i.toNat = g :: hs.drop (i.toNat + 1) := by rw [List.drop_eq_getElem_cons hgi, hge]
  have els : ls.drop i.toNat = l :: ls.drop (i.toNat + 1) := by rw [List.drop_eq_getElem_cons hli, hle]
  rw [ehs, els] at p3
  rw [ehs] at p4
  obtain ⟨q1, q2, q3⟩ := p3
  have h' : Mem S w0 w ([(true, tl e e2 v hs ls i)] ++ R) := h
  have hfe : ∀ b, (tl e e2 v hs ls i).foot b ↔ (v.ownBlock = some b ∨ ∃ x, x ∈ g :: hs.drop (i.toNat + 1) ∧ x.ownBlock = some b) := fun b => by
    show (v.ownBlock = some b ∨ ∃ x, x ∈ hs.drop i.toNat ∧ x.ownBlock = some b) ↔ _
    rw [ehs]
  have hfe2 : ∀ b, (tl e e2 v hs ls (IntKind.i64.wrap (i + 1))).foot b ↔ (v.ownBlock = some b ∨ ∃ x, x ∈ hs.drop (i.toNat + 1) ∧ x.ownBlock = some b) := fun b => by
    show (v.ownBlock = some b ∨ ∃ x, x ∈ hs.drop (IntKind.i64.wrap (i + 1)).toNat ∧ x.ownBlock = some b) ↔ _
    rw [hn]
  refine h'.conv (A' := [(true, ow e2 g l), (true, tl e e2 v hs ls (IntKind.i64.wrap (i + 1)))]) rfl rfl ?_ ?_ ?_
  · intro x hx
    simp at hx
    rcases hx with rfl | rfl
    · exact q1
    · refine ⟨p1, p2, ?_, ?_⟩
      · rw [hn]; exact q3
      · rw [hn]; exact fun b hb x hx => p4 b hb x (by simp [hx])
  · rintro b ⟨x, hx, hb⟩
    refine ⟨(true, tl e e2 v hs ls i), by simp, ?_⟩
    refine (hfe b).2 ?_
    simp at hx
    rcases hx with rfl | rfl
    · exact .inr ⟨g, by simp, hb⟩
    · rcases (hfe2 b).1 hb with hb | ⟨y, hy, hb⟩
      · exact .inl hb
      · exact .inr ⟨y, by simp [hy], hb⟩
  · refine List.pairwise_cons.2 ⟨fun y hy _ b hb hyb => ?_, by simp⟩
    simp at hy
    subst hy
    rcases (hfe2 b).1 hyb with hc | ⟨y, hy, hc⟩
    · exact p4 b hc g (by simp) hb
    · exact q2 b hb y hy hc

theorem Mem.tlDrop {l : List Value} (h : Mem S w0 w ((true, tl e e2 v hs ls i) :: R)) (h0 : 0 ≤ i) (hl : ls[i.toNat]? = some l) : Mem S w0 w ((true, tl e e2 v hs ls (IntKind.i64.wrap (i + 1))) :: R) := by
  have hP : (tl e e2 v hs ls i).P w := h.get 0 rfl
  obtain ⟨g, hg⟩ := tl_get hP hl
  exact (h.tlTake h0 hg hl).drop1

end

section
variable {P : Program} {w : World} {e e2 : TypeId} {v : Value} {hs : List Value} {ls : List (List Value)} {dst : Option Tmp} {ty : TypeId} {pos : String} {af : Array Edge} {gd : Option (Nat × Bool)} {ρ : Operand → Value} {i : Int}
theorem rv_len_tlM {α : Type} {f : α → List Value} {l : List α} {x : Operand} {ts : TypeId} {w2 : World} (ht : P.underlying ts = some (.slice e)) (hx : ρ x = v) (h : (tl e e2 v hs (l.map f) i).P w2) : RunV P ρ ⟨dst, .call ⟨.builtin .len, #[x], #[ts]⟩, ty, pos, af, gd⟩ w (.int .i64 (l.length : Int)) w := by
  have := rv_len_row (P := P) (ρ := ρ) (w := w) (dst := dst) (ty := ty) (pos := pos) (af := af) (gd := gd) ht hx (tl_rd h)
  rw [tl_len h] at this
  simpa using this
end

end Go.Proofs.Ytblbimlobacciaa
