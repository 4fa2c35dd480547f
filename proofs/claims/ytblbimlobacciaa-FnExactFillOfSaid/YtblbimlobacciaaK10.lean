/- Proved here: a family of owned rows, for rows of rows. It holds for every program. -/
import Derived.Test.YtblbimlobacciaaK9
namespace Go.Proofs.Ytblbimlobacciaa
open Go Go.RowKit
set_option linter.unusedVariables false
set_option linter.unusedSimpArgs false

def FamP (e : TypeId) (w : World) : List Value → List (List Value) → Prop
  | [], [] => True
  | h :: hs, l :: ls => (ow e h l).P w ∧ (∀ b, h.ownBlock = some b → ∀ g, g ∈ hs → g.ownBlock ≠ some b) ∧ FamP e w hs ls
  | _, _ => False

theorem FamP.stab {e : TypeId} {w w' : World} : ∀ {hs : List Value} {ls : List (List Value)}, FamP e w hs ls → (∀ b, (∃ h, h ∈ hs ∧ h.ownBlock = some b) → w'.heap[b]? = w.heap[b]?) → FamP e w' hs ls
  | [], [], _, _ => trivial
  | h :: hs, l :: ls, ⟨p, d, r⟩, hb => ⟨(ow e h l).stab w w' p fun b hf => hb b ⟨h, by simp, hf⟩, d, r.stab fun b ⟨g, hg, hf⟩ => hb b ⟨g, by simp [hg], hf⟩⟩
  | [], _ :: _, h, _ => h.elim
  | _ :: _, [], h, _ => h.elim

theorem FamP.inb {e : TypeId} {w : World} : ∀ {hs : List Value} {ls : List (List Value)}, FamP e w hs ls → ∀ b, (∃ h, h ∈ hs ∧ h.ownBlock = some b) → b < w.heap.size
  | [], [], _, b, ⟨h, hm, _⟩ => by simp at hm
  | h :: hs, l :: ls, ⟨p, d, r⟩, b, ⟨g, hg, hf⟩ => by
    rcases List.mem_cons.1 hg with rfl | hg
    · exact (ow e g l).inb w b p hf
    · exact r.inb b ⟨g, hg, hf⟩
  | [], _ :: _, h, _, _ => h.elim
  | _ :: _, [], h, _, _ => h.elim

theorem FamP.len {e : TypeId} {w : World} : ∀ {hs : List Value} {ls : List (List Value)}, FamP e w hs ls → hs.length = ls.length
  | [], [], _ => rfl
  | h :: hs, l :: ls, ⟨_, _, r⟩ => by simp [r.len]
  | [], _ :: _, h => h.elim
  | _ :: _, [], h => h.elim

/-- Owned rows, each by its header, all apart. -/
def fam (e : TypeId) (hs : List Value) (ls : List (List Value)) : Res where
  P := fun w => FamP e w hs ls
  foot := fun b => ∃ h, h ∈ hs ∧ h.ownBlock = some b
  stab := fun w w' h hb => h.stab hb
  inb := fun w b h hb => h.inb b hb

theorem FamP.append {e : TypeId} {w : World} : ∀ {hs gs : List Value} {ls ms : List (List Value)}, FamP e w hs ls → FamP e w gs ms → (∀ b, (∃ h, h ∈ hs ∧ h.ownBlock = some b) → ¬ ∃ g, g ∈ gs ∧ g.ownBlock = some b) → FamP e w (hs ++ gs) (ls ++ ms)
  | [], gs, [], ms, _, h2, _ => h2
  | h :: hs, gs, l :: ls, ms, ⟨p, d, r⟩, h2, hd => ⟨p, fun b hb g hg hgb => by
      rcases List.mem_append.1 hg with hg | hg
      · exact d b hb g hg hgb
      · exact hd b ⟨h, by simp, hb⟩ ⟨g, hg, hgb⟩, r.append h2 fun b ⟨x, hx, hxb⟩ => hd b ⟨x, by simp [hx], hxb⟩⟩
  | [], _, _ :: _, _, h, _, _ => h.elim
  | _ :: _, _, [], _, h, _, _ => h.elim

theorem FamP.get {e : TypeId} {w : World} : ∀ {hs : List Value} {ls : List (List Value)}, FamP e w hs ls → ∀ {i : Nat} {h : Value} {l : List Value}, hs[i]? = some h → ls[i]? = some l → (ow e h l).P w
  | h :: hs, l :: ls, ⟨p, d, r⟩, 0, _, _, h1, h2 => by
    simp at h1 h2; subst h1; subst h2; exact p
  | h :: hs, l :: ls, ⟨p, d, r⟩, i + 1, _, _, h1, h2 => by
    simp at h1 h2
    exact r.get h1 h2
  | [], [], _, i, _, _, h1, _ => by simp at h1
  | [], _ :: _, h, _, _, _, _, _ => h.elim
  | _ :: _, [], h, _, _, _, _, _ => h.elim

section
variable {S : Nat → Prop} {w0 w : World} {R : RL} {e : TypeId}

/-- Owned resources, seen otherwise. -/
theorem Mem.conv {A A' B : RL} (h : Mem S w0 w (A ++ B)) (hA : allOwn A = true) (hA' : allOwn A' = true) (hp : ∀ x ∈ A', x.2.P w) (hf : ∀ b, feet A' b → feet A b) (hs : A'.Pairwise fun x y => (x.1 = true ∨ y.1 = true) → ∀ b, x.2.foot b → ¬ y.2.foot b) : Mem S w0 w (A' ++ B) :=
  h.callo hA ⟨.refl _ _, hp, fun x hx _ b hb => .inl (hf b ⟨x, hx, hb⟩), hs⟩ hA'

theorem Mem.famNil (h : Mem S w0 w R) : Mem S w0 w ((true, fam e [] []) :: R) := by
  have h' : Mem S w0 w ([] ++ R) := h
  refine h'.conv (A' := [(true, fam e [] [])]) rfl rfl ?_ ?_ (by simp)
  · intro x hx
    simp at hx
    subst hx
    exact trivial
  · rintro b ⟨x, hx, hb⟩
    simp at hx
    subst hx
    obtain ⟨g, hg, _⟩ := hb
    simp at hg

theorem Mem.famOne {v : Value} {l : List Value} (h : Mem S w0 w ((true, ow e v l) :: R)) : Mem S w0 w ((true, fam e [v] [l]) :: R) := by
  have h' : Mem S w0 w ([(true, ow e v l)] ++ R) := h
  refine h'.conv (A' := [(true, fam e [v] [l])]) rfl rfl ?_ ?_ (by simp)
  · intro x hx
    simp at hx
    subst hx
    exact ⟨h.get 0 rfl, fun b _ g hg => by simp at hg, trivial⟩
  · rintro b ⟨x, hx, hb⟩
    simp at hx
    subst hx
    obtain ⟨g, hg, hgb⟩ := hb
    simp at hg
    subst hg
    exact ⟨(true, ow e g l), by simp, hgb⟩

theorem Mem.famCat {hs gs : List Value} {ls ms : List (List Value)} (h : Mem S w0 w ((true, fam e hs ls) :: (true, fam e gs ms) :: R)) : Mem S w0 w ((true, fam e (hs ++ gs) (ls ++ ms)) :: R) := by
  have h' : Mem S w0 w ([(true, fam e hs ls), (true, fam e gs ms)] ++ R) := h
  refine h'.conv (A' := [(true, fam e (hs ++ gs) (ls ++ ms))]) rfl rfl ?_ ?_ (by simp)
  · intro x hx
    simp at hx
    subst hx
    exact FamP.append (h.get 0 rfl) (h.get 1 rfl) fun b h1 h2 => (List.pairwise_cons.1 h.sep).1 (true, fam e gs ms) (by simp) (.inl rfl) b h1 h2
  · rintro b ⟨x, hx, hb⟩
    simp at hx
    subst hx
    obtain ⟨g, hg, hgb⟩ := hb
    rcases List.mem_append.1 hg with hg | hg
    · exact ⟨(true, fam e hs ls), by simp, ⟨g, hg, hgb⟩⟩
    · exact ⟨(true, fam e gs ms), by simp, ⟨g, hg, hgb⟩⟩

theorem Mem.drop1 {x : Bool × Res} (h : Mem S w0 w (x :: R)) : Mem S w0 w R :=
  ⟨h.fr, fun y hy => h.p y (by simp [hy]), fun y hy => h.own y (by simp [hy]), (List.pairwise_cons.1 h.sep).2⟩

end

section
variable {S : Nat → Prop} {w0 w : World} {R : RL} {e : TypeId}

theorem FamP.out : ∀ {hs : List Value} {ls : List (List Value)}, FamP e w hs ls → ∀ {i : Nat} {h : Value} {l : List Value}, hs[i]? = some h → ls[i]? = some l →
    FamP e w (hs.eraseIdx i) (ls.eraseIdx i) ∧ ∀ b, h.ownBlock = some b → ∀ g, g ∈ hs.eraseIdx i → g.ownBlock ≠ some b
  | h :: hs, l :: ls, ⟨p, d, r⟩, 0, _, _, h1, h2 => by
    simp at h1 h2; subst h1; subst h2
    exact ⟨r, d⟩
  | h :: hs, l :: ls, ⟨p, d, r⟩, i + 1, g, m, h1, h2 => by
    simp at h1 h2
    obtain ⟨q, a⟩ := r.out h1 h2
    refine ⟨⟨p, fun b hb x hx => d b hb x (List.mem_of_mem_eraseIdx hx), q⟩, fun b hb x hx => ?_⟩
    simp only [List.eraseIdx_cons_succ, List.mem_cons] at hx
    rcases hx with rfl | hx
    · intro hxb
      exact d b hxb g (List.mem_of_getElem? h1) hb
    · exact a b hb x hx
  | [], [], _, i, _, _, h1, _ => by simp at h1
  | [], _ :: _, h, _, _, _, _, _ => h.elim
  | _ :: _, [], h, _, _, _, _, _ => h.elim

theorem FamP.put : ∀ {hs : List Value} {ls : List (List Value)} {i : Nat} {h : Value} {l l2 : List Value}, hs[i]? = some h → ls[i]? = some l → FamP e w (hs.eraseIdx i) (ls.eraseIdx i) → (ow e h l2).P w → (∀ b, h.ownBlock = some b → ∀ g, g ∈ hs.eraseIdx i → g.ownBlock ≠ some b) → FamP e w hs (ls.set i l2)
  | h :: hs, l :: ls, 0, _, _, l2, h1, h2, r, p, d => by
    simp at h1; subst h1
    exact ⟨p, d, r⟩
  | h :: hs, l :: ls, i + 1, g, m, l2, h1, h2, ⟨q, d1, r⟩, p, d => by
    simp at h1 h2
    refine ⟨q, fun b hb x hx hxb => ?_, FamP.put h1 h2 r p fun b hb x hx => d b hb x (by simp [hx])⟩
    by_cases hxe : x ∈ hs.eraseIdx i
    · exact d1 b hb x hxe hxb
    · -- then x is the one taken out
      have : x = g := by
        obtain ⟨j, hj, e1⟩ := List.mem_iff_getElem.1 hx
        by_cases hji : j = i
        · subst hji
          rw [List.getElem?_eq_getElem hj] at h1
          simp at h1
          rw [← e1, h1]
        · exfalso
          apply hxe
          rw [List.mem_eraseIdx_iff_getElem]
          exact ⟨j, hj, hji, e1⟩
      subst this
      exact d b hxb h (by simp) hb
  | [], _, i, _, _, _, h1, _, _, _, _ => by simp at h1
  | _ :: _, [], i, _, _, _, _, h2, _, _, _ => by simp at h2

/-- One row taken out of the family. -/
theorem Mem.famOut {hs : List Value} {ls : List (List Value)} {i : Nat} {v : Value} {l : List Value} (h : Mem S w0 w ((true, fam e hs ls) :: R)) (h1 : hs[i]? = some v) (h2 : ls[i]? = some l) : Mem S w0 w ((true, ow e v l) :: (true, fam e (hs.eraseIdx i) (ls.eraseIdx i)) :: R) := by
  have hP : FamP e w hs ls := h.get 0 rfl
  obtain ⟨q, a⟩ := hP.out h1 h2
  have h' : Mem S w0 w ([(true, fam e hs ls)] ++ R) := h
  refine h'.conv (A' := [(true, ow e v l), (true, fam e (hs.eraseIdx i) (ls.eraseIdx i))]) rfl rfl ?_ ?_ ?_
  · intro x hx
    simp at hx
    rcases hx with rfl | rfl
    · exact hP.get h1 h2
    · exact q
  · rintro b ⟨x, hx, hb⟩
    refine ⟨(true, fam e hs ls), by simp, ?_⟩
    simp at hx
    rcases hx with rfl | rfl
    · exact ⟨v, List.mem_of_getElem? h1, hb⟩
    · obtain ⟨g, hg, hgb⟩ := hb
      exact ⟨g, List.mem_of_mem_eraseIdx hg, hgb⟩
  · refine List.pairwise_cons.2 ⟨fun y hy _ b hb hyb => ?_, by simp⟩
    simp at hy
    subst hy
    obtain ⟨g, hg, hgb⟩ := hyb
    exact a b hb g hg hgb

/-- And put back. -/
theorem Mem.famIn {hs : List Value} {ls : List (List Value)} {i : Nat} {v : Value} {l l2 : List Value} (h : Mem S w0 w ((true, ow e v l2) :: (true, fam e (hs.eraseIdx i) (ls.eraseIdx i)) :: R)) (h1 : hs[i]? = some v) (h2 : ls[i]? = some l) : Mem S w0 w ((true, fam e hs (ls.set i l2)) :: R) := by
  have hq : FamP e w (hs.eraseIdx i) (ls.eraseIdx i) := h.get 1 rfl
  have hd : ∀ b, v.ownBlock = some b → ∀ g, g ∈ hs.eraseIdx i → g.ownBlock ≠ some b := fun b hb g hg hgb =>
    (List.pairwise_cons.1 h.sep).1 (true, fam e (hs.eraseIdx i) (ls.eraseIdx i)) (by simp) (.inl rfl) b hb ⟨g, hg, hgb⟩
  have h' : Mem S w0 w ([(true, ow e v l2), (true, fam e (hs.eraseIdx i) (ls.eraseIdx i))] ++ R) := h
  refine h'.conv (A' := [(true, fam e hs (ls.set i l2))]) rfl rfl ?_ ?_ (by simp)
  · intro x hx
    simp at hx
    subst hx
    exact FamP.put h1 h2 hq (h.get 0 rfl) hd
  · rintro b ⟨x, hx, hb⟩
    simp at hx
    subst hx
    obtain ⟨g, hg, hgb⟩ := hb
    by_cases hge : g ∈ hs.eraseIdx i
    · exact ⟨(true, fam e (hs.eraseIdx i) (ls.eraseIdx i)), by simp, ⟨g, hge, hgb⟩⟩
    · have : g = v := by
        obtain ⟨j, hj, e1⟩ := List.mem_iff_getElem.1 hg
        by_cases hji : j = i
        · subst hji
          rw [List.getElem?_eq_getElem hj] at h1
          simp at h1
          rw [← e1, h1]
        · exact absurd (List.mem_eraseIdx_iff_getElem.2 ⟨j, hj, hji, e1⟩) hge
      subst this
      exact ⟨(true, ow e g l2), by simp, hgb⟩

end

/-- A row of rows: the outer row, the inner rows, all apart. -/
def mx (e e2 : TypeId) (v : Value) (hs : List Value) (ls : List (List Value)) : Res where
  P := fun w => (ow e v hs).P w ∧ FamP e2 w hs ls ∧ ∀ b, v.ownBlock = some b → ∀ g, g ∈ hs → g.ownBlock ≠ some b
  foot := fun b => v.ownBlock = some b ∨ ∃ h, h ∈ hs ∧ h.ownBlock = some b
  stab := fun w w' ⟨h1, h2, h3⟩ hb => ⟨(ow e v hs).stab w w' h1 fun b hf => hb b (.inl hf), h2.stab fun b hf => hb b (.inr hf), h3⟩
  inb := fun w b ⟨h1, h2, _⟩ hb => hb.elim (fun hf => (ow e v hs).inb w b h1 hf) (fun hf => h2.inb b hf)

section
variable {S : Nat → Prop} {w0 w : World} {R : RL} {e e2 : TypeId} {v : Value} {hs : List Value} {ls : List (List Value)}

theorem Mem.mxSplit (h : Mem S w0 w ((true, mx e e2 v hs ls) :: R)) : Mem S w0 w ((true, ow e v hs) :: (true, fam e2 hs ls) :: R) := by
  obtain ⟨p1, p2, p3⟩ : (mx e e2 v hs ls).P w := h.get 0 rfl
  have h' : Mem S w0 w ([(true, mx e e2 v hs ls)] ++ R) := h
  refine h'.conv (A' := [(true, ow e v hs), (true, fam e2 hs ls)]) rfl rfl ?_ ?_ ?_
  · intro x hx
    simp at hx
    rcases hx with rfl | rfl
    · exact p1
    · exact p2
  · rintro b ⟨x, hx, hb⟩
    refine ⟨(true, mx e e2 v hs ls), by simp, ?_⟩
    simp at hx
    rcases hx with rfl | rfl
    · exact .inl hb
    · exact .inr hb
  · refine List.pairwise_cons.2 ⟨fun y hy _ b hb hyb => ?_, by simp⟩
    simp at hy
    subst hy
    obtain ⟨g, hg, hgb⟩ := hyb
    exact p3 b hb g hg hgb

theorem Mem.mxJoin (h : Mem S w0 w ((true, ow e v hs) :: (true, fam e2 hs ls) :: R)) : Mem S w0 w ((true, mx e e2 v hs ls) :: R) := by
  have h' : Mem S w0 w ([(true, ow e v hs), (true, fam e2 hs ls)] ++ R) := h
  refine h'.conv (A' := [(true, mx e e2 v hs ls)]) rfl rfl ?_ ?_ (by simp)
  · intro x hx
    simp at hx
    subst hx
    exact ⟨h.get 0 rfl, h.get 1 rfl, fun b hb g hg hgb => (List.pairwise_cons.1 h.sep).1 (true, fam e2 hs ls) (by simp) (.inl rfl) b hb ⟨g, hg, hgb⟩⟩
  · rintro b ⟨x, hx, hb⟩
    simp at hx
    subst hx
    rcases hb with hb | hb
    · exact ⟨(true, ow e v hs), by simp, hb⟩
    · exact ⟨(true, fam e2 hs ls), by simp, hb⟩

theorem mx_rd (h : (mx e e2 v hs ls).P w) : RdRow w v hs := rd_of_ow h.1
theorem mx_len (h : (mx e e2 v hs ls).P w) : hs.length = ls.length := h.2.1.len
theorem mx_get {i : Nat} {l : List Value} (h : (mx e e2 v hs ls).P w) (hl : ls[i]? = some l) : ∃ g, hs[i]? = some g := by
  have hi : i < ls.length := (List.getElem?_eq_some_iff.1 hl).1
  rw [← mx_len h] at hi
  exact ⟨hs[i], List.getElem?_eq_getElem hi⟩
theorem mx_row {i : Nat} {g : Value} {l : List Value} (h : (mx e e2 v hs ls).P w) (hg : hs[i]? = some g) (hl : ls[i]? = some l) : RdRow w g l := rd_of_ow (h.2.1.get hg hl)

end

section
variable {P : Program} {S : Nat → Prop} {w0 w : World} {R : RL} {e e2 : TypeId} {v : Value} {hs : List Value} {ls : List (List Value)} {dst : Option Tmp} {ty : TypeId} {pos : String} {af : Array Edge} {gd : Option (Nat × Bool)} {z : Value} {by8 : Nat} {ρ : Operand → Value}

theorem FamP.one {e : TypeId} {w : World} : ∀ {hs : List Value} {ls : List (List Value)}, FamP e w hs ls → ∀ h ∈ hs, h.oneCell' = true
  | [], [], _, h, hm => by simp at hm
  | h :: hs, l :: ls, ⟨p, _, r⟩, g, hg => by
    rcases List.mem_cons.1 hg with rfl | hg
    · exact rd_one (rd_of_ow p)
    · exact r.one g hg
  | [], _ :: _, h, _, _ => h.elim
  | _ :: _, [], h, _, _ => h.elim

theorem Mem.swap {x y : Bool × Res} (h : Mem S w0 w (x :: y :: R)) : Mem S w0 w (y :: x :: R) := by
  obtain ⟨s1, s2⟩ := List.pairwise_cons.1 h.sep
  obtain ⟨s3, s4⟩ := List.pairwise_cons.1 s2
  refine ⟨h.fr, fun q hq => h.p q (by simp at hq ⊢; rcases hq with h | h | h <;> simp [h]), fun q hq => h.own q (by simp at hq ⊢; rcases hq with h | h | h <;> simp [h]), ?_⟩
  refine List.pairwise_cons.2 ⟨fun q hq => ?_, List.pairwise_cons.2 ⟨fun q hq => s1 q (by simp [hq]), s4⟩⟩
  rcases List.mem_cons.1 hq with rfl | hq
  · intro ho b hb hb2
    exact s1 y (by simp) ho.symm b hb2 hb
  · exact s3 q hq

theorem Mem.rot {x y z : Bool × Res} (h : Mem S w0 w (x :: y :: z :: R)) : Mem S w0 w (x :: z :: y :: R) := by
  have h' : Mem S w0 w (y :: z :: R) := h.drop1
  have h2 := h'.swap
  obtain ⟨s1, _⟩ := List.pairwise_cons.1 h.sep
  refine ⟨h.fr, fun q hq => h.p q (by simp at hq ⊢; rcases hq with h | h | h | h <;> simp [h]), fun q hq => h.own q (by simp at hq ⊢; rcases hq with h | h | h | h <;> simp [h]), ?_⟩
  refine List.pairwise_cons.2 ⟨fun q hq => s1 q (by simp at hq ⊢; rcases hq with h | h | h <;> simp [h]), h2.sep⟩

theorem rv_len_mx {x : Operand} {ts : TypeId} {w2 : World} (ht : P.underlying ts = some (.slice e)) (hx : ρ x = v) (h : (mx e e2 v hs ls).P w2) : RunV P ρ ⟨dst, .call ⟨.builtin .len, #[x], #[ts]⟩, ty, pos, af, gd⟩ w (.int .i64 (ls.length : Int)) w := by
  rw [← mx_len h]
  exact rv_len_row ht hx (mx_rd h)

theorem rv_len_mxM {α : Type} {f : α → List Value} {l : List α} {x : Operand} {ts : TypeId} {w2 : World} (ht : P.underlying ts = some (.slice e)) (hx : ρ x = v) (h : (mx e e2 v hs (l.map f)).P w2) : RunV P ρ ⟨dst, .call ⟨.builtin .len, #[x], #[ts]⟩, ty, pos, af, gd⟩ w (.int .i64 (l.length : Int)) w := by
  have := rv_len_mx (P := P) (ρ := ρ) (w := w) (dst := dst) (ty := ty) (pos := pos) (af := af) (gd := gd) ht hx h
  simpa using this

theorem mx_lt {α : Type} {f : α → List Value} {l : List α} {i : Nat} {w2 : World} (h : (mx e e2 v hs (l.map f)).P w2) (hi : i < l.length) : i < hs.length := by
  rw [mx_len h]; simpa using hi

theorem Mem.mxLit0 {t : TypeId} {L : Slots} {a : Act} {m : Nat} (h : Mem S w0 w R) (hS : Sl m L a) (ht : P.underlying t = some (.slice e)) (he : ElT P e z by8) (hz1 : z.oneCell' = true) :
    ∃ v' w', RunV P a.eval ⟨dst, .buildSlice t 0 #[], ty, pos, af, gd⟩ w v' w' ∧ Mem S w0 w' ((true, mx e e2 v' [] []) :: R) := by
  obtain ⟨v', w', h1, h2⟩ := Mem.lit (P := P) (dst := dst) (ty := ty) (pos := pos) (af := af) (gd := gd) (n := 0) (ps := []) (vs := []) h hS ht he rfl rfl (fun v hv => by cases hv) hz1 rfl
  refine ⟨v', w', h1, ?_⟩
  have h3 := Mem.famNil (e := e2) h2
  exact h3.swap.mxJoin
theorem Mem.mxLit1 {t : TypeId} {L : Slots} {a : Act} {m : Nat} {x : Operand} {hv : Value} {l : List Value} (h : Mem S w0 w ((true, ow e2 hv l) :: R)) (hS : Sl m L a) (ht : P.underlying t = some (.slice e)) (he : ElT P e z by8) (hz1 : z.oneCell' = true) (hx : partsV L 0 [(0, x)] = some [hv]) :
    ∃ v' w', RunV P a.eval ⟨dst, .buildSlice t 1 #[(0, x)], ty, pos, af, gd⟩ w v' w' ∧ Mem S w0 w' ((true, mx e e2 v' [hv] [l]) :: R) := by
  have ho := rd_one (rd_of_ow (h.get 0 rfl))
  obtain ⟨v', w', h1, h2⟩ := Mem.lit (P := P) (dst := dst) (ty := ty) (pos := pos) (af := af) (gd := gd) (n := 1) (ps := [(0, x)]) (vs := [hv]) h hS ht he hx rfl (fun u hu => by simp at hu; rw [hu]; exact ho) hz1 rfl
  exact ⟨v', w', h1, h2.swap.famOne.swap.mxJoin⟩

theorem Mem.mxApp {t : TypeId} {x y : Operand} {v2 : Value} {hs2 : List Value} {ls2 : List (List Value)} (h : Mem S w0 w ((true, mx e e2 v hs ls) :: (true, mx e e2 v2 hs2 ls2) :: R)) (ht : P.underlying t = some (.slice e)) (he : ElT P e z by8) (hz1 : z.oneCell' = true) (hby : by8 ≤ 24) (hx : ρ x = v) (hy : ρ y = v2) (hsz : ls.length + ls2.length < 1099511627776) :
    ∃ v' w', RunV P ρ ⟨dst, .call ⟨.builtin .append, #[x, y], #[t, t]⟩, ty, pos, af, gd⟩ w v' w' ∧ Mem S w0 w' ((true, mx e e2 v' (hs ++ hs2) (ls ++ ls2)) :: R) := by
  have p1 : (mx e e2 v hs ls).P w := h.get 0 rfl
  have p2 : (mx e e2 v2 hs2 ls2).P w := h.get 1 rfl
  have h1 := h.swap.mxSplit
  -- outer2, fam2, mx1
  have h2 : Mem S w0 w ((true, mx e e2 v hs ls) :: (true, fam e2 hs2 ls2) :: R) := h1.drop1.swap
  have h3 := h2.mxSplit
  obtain ⟨v', w', a1, a2⟩ := h3.app (P := P) (ty := ty) ht he hz1 (mx_rd p2) p2.2.1.one (by rw [mx_len p1, mx_len p2]; exact hsz) hby
  refine ⟨v', w', rv_append hx hy a1, ?_⟩
  exact (a2.swap : Mem S w0 w' _) |> fun q => by
    have q2 : Mem S w0 w' ((true, ow e v' (hs ++ hs2)) :: (true, fam e2 hs ls) :: (true, fam e2 hs2 ls2) :: R) := a2
    have q3 := q2.swap
    have q4 : Mem S w0 w' ((true, fam e2 hs ls) :: (true, fam e2 hs2 ls2) :: (true, ow e v' (hs ++ hs2)) :: R) := q3.rot
    exact q4.famCat.swap.mxJoin

end

end Go.Proofs.Ytblbimlobacciaa
