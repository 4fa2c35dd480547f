/- Proved here: memory as a list of resources, and what each operation does to it. It holds for every program. -/
import Derived.Test.YtblbimlobacciaaK0
namespace Go.Proofs.Ytblbimlobacciaa
open Go Go.RowKit
set_option linter.unusedVariables false
set_option linter.unusedSimpArgs false

/-! ### What may have changed -/

structure Fr (S : Nat → Prop) (w w' : World) : Prop where
  os : w'.os = w.os
  tape : w'.tape = w.tape
  output : w'.output = w.output
  size : w.heap.size ≤ w'.heap.size
  block : ∀ k, k < w.heap.size → ¬ S k → w'.heap[k]? = w.heap[k]?

abbrev Nob : Nat → Prop := fun _ => False

theorem Fr.refl (S : Nat → Prop) (w : World) : Fr S w w := ⟨rfl, rfl, rfl, Nat.le_refl _, fun _ _ _ => rfl⟩

theorem Fr.step {S T : Nat → Prop} {a b c : World} (h : Fr S a b) (k : Fr T b c) (ht : ∀ i, T i → S i ∨ a.heap.size ≤ i) : Fr S a c :=
  ⟨k.os.trans h.os, k.tape.trans h.tape, k.output.trans h.output, Nat.le_trans h.size k.size, fun i hi hs =>
    (k.block i (Nat.lt_of_lt_of_le hi h.size) (fun hti => (ht i hti).elim hs (fun h' => by omega))).trans (h.block i hi hs)⟩

theorem Fr.trans {S : Nat → Prop} {a b c : World} (h : Fr S a b) (k : Fr S b c) : Fr S a c := h.step k fun _ hi => .inl hi
theorem Fr.transN {S : Nat → Prop} {a b c : World} (h : Fr S a b) (k : Fr Nob b c) : Fr S a c := h.step k fun _ hi => hi.elim
theorem Fr.mono {S T : Nat → Prop} {a b : World} (h : Fr S a b) (hs : ∀ i, S i → T i) : Fr T a b := ⟨h.os, h.tape, h.output, h.size, fun k hk hn => h.block k hk fun hsk => hn (hs k hsk)⟩
theorem Fr.drew (w : World) : Fr Nob w w.drew := ⟨rfl, rfl, rfl, Nat.le_refl _, fun _ _ _ => rfl⟩
theorem Fr.alloc (w : World) (o : Obj) : Fr Nob w (w.alloc o) := ⟨rfl, rfl, rfl, by simp, fun k hk _ => heap_alloc_old w o hk⟩
theorem Fr.grown {w w' : World} {row : Option Nat} (h : w.grownBy w' row) : Fr (fun k => row = some k) w w' := ⟨h.os, h.tape, h.output, h.size, fun k hk hn => h.block k hk fun e => hn e.symm⟩
theorem Fr.setRow (w : World) (g : Nat) (cs : Array Value) : Fr (fun k => k = g) w (w.setRow g cs) := ⟨rfl, rfl, rfl, by simp [World.setRow], fun k hk hn => setRow_other w g k cs hn⟩
theorem Fr.below {w w' : World} (h : Fr Nob w w') : Below w.heap.size w w' := ⟨h.os, h.tape, h.output, h.size, fun k hk => h.block k hk fun x => x⟩

/-! ### Resources -/

structure Res where
  P : World → Prop
  foot : Nat → Prop
  stab : ∀ w w', P w → (∀ b, foot b → w'.heap[b]? = w.heap[b]?) → P w'
  inb : ∀ w b, P w → foot b → b < w.heap.size

def RdRow (w : World) (v : Value) (cs : List Value) : Prop :=
  ∃ a cap, v = .slice a cs.length cap ∧ cs.length ≤ cap ∧ (cs = [] ∨ ∃ b off, a = some ⟨b, off, none⟩ ∧ ∀ i x, cs[i]? = some x → w.cell? ⟨b, off + i, none⟩ = some x)

/-- A row that is read. -/
def rd (v : Value) (cs : List Value) : Res where
  P := fun w => RdRow w v cs
  foot := fun b => cs ≠ [] ∧ v.ownBlock = some b
  stab := by
    rintro w w' ⟨a, cap, rfl, hc, h⟩ hb
    refine ⟨a, cap, rfl, hc, ?_⟩
    rcases h with h | ⟨b, off, rfl, h⟩
    · exact .inl h
    · by_cases hcs : cs = []
      · exact .inl hcs
      refine .inr ⟨b, off, rfl, fun i x hx => ?_⟩
      rw [World.cell?_of_block (w := w) (hb b ⟨hcs, rfl⟩)]
      exact h i x hx
  inb := by
    rintro w b ⟨a, cap, rfl, hc, h⟩ ⟨hcs, hb⟩
    rcases h with h | ⟨b', off, rfl, h⟩
    · exact absurd h hcs
    · simp [Value.ownBlock] at hb
      subst hb
      cases cs with
      | nil => exact absurd rfl hcs
      | cons x r => exact World.block_lt_of_cell? w _ (h 0 x (by simp))

/-- A row that is owned: nobody else sees its block. -/
def ow (e : TypeId) (v : Value) (cs : List Value) : Res where
  P := fun w => w.ownsRow 0 e 1 v cs.length cs
  foot := fun b => v.ownBlock = some b
  stab := by
    rintro w w' ⟨h1, h⟩ hb
    refine ⟨h1, ?_⟩
    rcases h with h | ⟨g, cap, cur, rfl, h0, hg, r⟩
    · exact .inl h
    · exact .inr ⟨g, cap, cur, rfl, h0, by rw [hb g rfl]; exact hg, r⟩
  inb := by
    rintro w b h hb
    exact (h.lt b hb).2

/-- A block whose cells are known. -/
def bx (b : Nat) (T : TypeId) (cs : List Value) : Res where
  P := fun w => w.heap[b]? = some (.cells cs.toArray T (0, 0))
  foot := fun k => k = b
  stab := by
    intro w w' h hb
    rw [hb b rfl]; exact h
  inb := by
    intro w k h hk
    subst hk
    exact (Array.getElem?_eq_some_iff.1 h).1

theorem rd_of_ow {w : World} {e : TypeId} {v : Value} {cs : List Value} (h : (ow e v cs).P w) : RdRow w v cs := by
  rcases h.2 with ⟨rfl, hn⟩ | ⟨g, cap, cur, rfl, h0, hg, hc, hm, hs, ht⟩
  · have : cs = [] := List.eq_nil_of_length_eq_zero hn
    subst this
    exact ⟨none, 0, rfl, Nat.le_refl _, .inl rfl⟩
  · refine ⟨_, cap, rfl, hc, ?_⟩
    refine .inr ⟨g, 0, rfl, fun i x hx => ?_⟩
    have := h.cells (g := g) rfl i x hx
    have hadd : (⟨g, 0, none⟩ : Addr).add i = ⟨g, 0 + i, none⟩ := by unfold Addr.add; split <;> simp_all
    rw [hadd] at this
    exact this

theorem rd_one {w : World} {v : Value} {cs : List Value} (h : RdRow w v cs) : v.oneCell' = true := by
  obtain ⟨a, cap, rfl, _⟩ := h; rfl

abbrev RL := List (Bool × Res)

structure Mem (S : Nat → Prop) (w0 w : World) (R : RL) : Prop where
  fr : Fr S w0 w
  p : ∀ x ∈ R, x.2.P w
  own : ∀ x ∈ R, x.1 = true → ∀ b, x.2.foot b → S b ∨ w0.heap.size ≤ b
  sep : R.Pairwise fun x y => (x.1 = true ∨ y.1 = true) → ∀ b, x.2.foot b → ¬ y.2.foot b

section
variable {S : Nat → Prop} {w0 w w' : World} {R : RL}

theorem Mem.get (h : Mem S w0 w R) (i : Nat) {x : Bool × Res} (hi : R[i]? = some x) : x.2.P w := h.p x (List.mem_of_getElem? hi)

/-- Nothing that was there has changed. -/
theorem Mem.fra (h : Mem S w0 w R) (hf : Fr Nob w w') : Mem S w0 w' R :=
  ⟨h.fr.transN hf, fun x hx => x.2.stab w w' (h.p x hx) fun b hb => hf.block b (x.2.inb w b (h.p x hx) hb) (fun e => e), h.own, h.sep⟩

def allOwn : RL → Bool
  | [] => true
  | x :: r => x.1 && allOwn r

theorem allOwn_mem : ∀ {N : RL}, allOwn N = true → ∀ x ∈ N, x.1 = true
  | [], _, _, h => by cases h
  | y :: r, h, x, hx => by
    simp only [allOwn, Bool.and_eq_true] at h
    rcases List.mem_cons.1 hx with rfl | hx
    · exact h.1
    · exact allOwn_mem h.2 x hx

def feet (A : RL) : Nat → Prop := fun b => ∃ x ∈ A, x.2.foot b

/-- A callee that changes what it is handed: 'A' is handed over, 'B' stays behind. -/
theorem Mem.callo {A B A' : RL} (h : Mem S w0 w (A ++ B)) (hA : allOwn A = true) (hc : Mem (feet A) w w' A') (hA' : allOwn A' = true) : Mem S w0 w' (A' ++ B) := by
  have hsep := List.pairwise_append.1 h.sep
  have hfe : ∀ b, feet A b → S b ∨ w0.heap.size ≤ b := by
    rintro b ⟨x, hx, hb⟩
    exact h.own x (List.mem_append_left _ hx) (allOwn_mem hA x hx) b hb
  have hB : ∀ y ∈ B, y.2.P w' := by
    intro y hy
    have hyR : y ∈ A ++ B := by simp [hy]
    refine y.2.stab w w' (h.p y hyR) fun b hb => ?_
    refine hc.fr.block b (y.2.inb w b (h.p y hyR) hb) ?_
    rintro ⟨x, hx, hxb⟩
    exact hsep.2.2 x hx y hy (.inl (allOwn_mem hA x hx)) b hxb hb
  refine ⟨h.fr.step hc.fr hfe, ?_, ?_, ?_⟩
  · intro x hx
    rcases List.mem_append.1 hx with hx | hx
    · exact hc.p x hx
    · exact hB x hx
  · intro x hx ho b hb
    rcases List.mem_append.1 hx with hx | hx
    · rcases hc.own x hx ho b hb with h1 | h1
      · exact hfe b h1
      · exact .inr (Nat.le_trans h.fr.size h1)
    · exact h.own x (List.mem_append_right _ hx) ho b hb
  · rw [List.pairwise_append]
    refine ⟨hc.sep, hsep.2.1, ?_⟩
    intro x hx y hy ho b hb hb'
    have hyR : y ∈ A ++ B := by simp [hy]
    have hlt := y.2.inb w b (h.p y hyR) hb'
    rcases hc.own x hx (allOwn_mem hA' x hx) b hb with h1 | h1
    · obtain ⟨z, hz, hzb⟩ := h1
      exact hsep.2.2 z hz y hy (.inl (allOwn_mem hA z hz)) b hzb hb'
    · omega

/-- New resources of the callee's own. -/
theorem Mem.add {N : RL} (h : Mem S w0 w R) (hm : Mem Nob w w' N) (hN : allOwn N = true) : Mem S w0 w' (N ++ R) := by
  have h' : Mem S w0 w ([] ++ R) := h
  refine h'.callo rfl ?_ hN
  refine ⟨hm.fr.mono fun _ x => x.elim, hm.p, fun x hx ho b hb => (hm.own x hx ho b hb).elim (fun x => x.elim) .inr, hm.sep⟩

def Weaks : RL → RL → Prop
  | [], [] => True
  | x :: r, y :: s => ((∀ w, x.2.P w → y.2.P w) ∧ (∀ b, y.2.foot b → x.2.foot b) ∧ y.1 = false) ∧ Weaks r s
  | _, _ => False

theorem Weaks.mem : ∀ {C D : RL}, Weaks C D → ∀ y ∈ D, ∃ x ∈ C, (∀ w, x.2.P w → y.2.P w) ∧ (∀ b, y.2.foot b → x.2.foot b) ∧ y.1 = false
  | [], [], _, _, h => by cases h
  | x :: r, z :: s, h, y, hy => by
    rcases List.mem_cons.1 hy with rfl | hy
    · exact ⟨x, by simp, h.1⟩
    · obtain ⟨u, hu, hh⟩ := h.2.mem y hy
      exact ⟨u, by simp [hu], hh⟩
  | [], _ :: _, h, _, _ => h.elim
  | _ :: _, [], h, _, _ => h.elim

theorem weak_self (b : Bool) (r : Res) : (∀ w, (b, r).2.P w → (false, r).2.P w) ∧ (∀ k, (false, r).2.foot k → (b, r).2.foot k) ∧ (false, r).1 = false := ⟨fun _ h => h, fun _ h => h, rfl⟩
theorem weak_ow (b : Bool) (e : TypeId) (v : Value) (cs : List Value) : (∀ w, (b, ow e v cs).2.P w → (false, rd v cs).2.P w) ∧ (∀ k, (false, rd v cs).2.foot k → (b, ow e v cs).2.foot k) ∧ (false, rd v cs).1 = false :=
  ⟨fun _ h => rd_of_ow h, fun _ h => h.2, rfl⟩

theorem Mem.pre {A C B D : RL} (h : Mem S w0 w (A ++ (C ++ B))) (hA : allOwn A = true) (hw : Weaks C D) : Mem (feet A) w w (A ++ D) := by
  have hsep := List.pairwise_append.1 h.sep
  refine ⟨.refl _ _, ?_, ?_, ?_⟩
  · intro x hx
    rcases List.mem_append.1 hx with hx | hx
    · exact h.p x (by simp [hx])
    · obtain ⟨y, hy, h1, _⟩ := hw.mem x hx
      exact h1 w (h.p y (by simp [hy]))
  · intro x hx ho b hb
    rcases List.mem_append.1 hx with hx | hx
    · exact .inl ⟨x, hx, hb⟩
    · obtain ⟨y, hy, _, _, h3⟩ := hw.mem x hx
      rw [h3] at ho; cases ho
  · rw [List.pairwise_append]
    refine ⟨hsep.1, ?_, ?_⟩
    · rw [List.pairwise_iff_forall_sublist]
      intro x y hxy ho
      have hx : x ∈ D := hxy.subset (by simp)
      have hy : y ∈ D := hxy.subset (by simp)
      obtain ⟨_, _, _, _, h3⟩ := hw.mem x hx
      obtain ⟨_, _, _, _, h4⟩ := hw.mem y hy
      rcases ho with ho | ho
      · rw [h3] at ho; cases ho
      · rw [h4] at ho; cases ho
    · intro x hx y hy ho b hb hb'
      obtain ⟨z, hz, _, h2, _⟩ := hw.mem y hy
      exact hsep.2.2 x hx z (by simp [hz]) (.inl (allOwn_mem hA x hx)) b hb (h2 b hb')

/-- Reordering, forgetting. -/
theorem Mem.pick (h : Mem S w0 w R) (idx : List Nat) (hnd : idx.Nodup) {R' : RL} (hR : idx.filterMap (fun i => R[i]?) = R') : Mem S w0 w R' := by
  subst hR
  refine ⟨h.fr, ?_, ?_, ?_⟩
  · intro x hx
    obtain ⟨i, _, hi⟩ := List.mem_filterMap.1 hx
    exact h.get i hi
  · intro x hx
    obtain ⟨i, _, hi⟩ := List.mem_filterMap.1 hx
    exact h.own x (List.mem_of_getElem? hi)
  · induction idx with
    | nil => simp
    | cons i r ih =>
      rw [List.nodup_cons] at hnd
      have ih' := ih hnd.2
      simp only [List.filterMap_cons]
      split
      · exact ih'
      · rename_i x hx
        refine List.pairwise_cons.2 ⟨?_, ih'⟩
        intro y hy
        obtain ⟨j, hj, hjy⟩ := List.mem_filterMap.1 hy
        have hij : i ≠ j := fun e => hnd.1 (e ▸ hj)
        obtain ⟨hil, hix⟩ := List.getElem?_eq_some_iff.1 hx
        obtain ⟨hjl, hjx⟩ := List.getElem?_eq_some_iff.1 hjy
        have hp := List.pairwise_iff_getElem.1 h.sep
        rcases Nat.lt_or_gt_of_ne hij with hlt | hlt
        · have := hp i j hil hjl hlt
          rw [hix, hjx] at this
          exact this
        · have := hp j i hjl hil hlt
          rw [hix, hjx] at this
          exact fun ho b hb hb' => this (ho.symm) b hb' hb

theorem Mem.nil (w : World) : Mem Nob w w [] := ⟨.refl _ _, by simp, by simp, .nil⟩

theorem Mem.one {x : Bool × Res} (hp : x.2.P w') (hf : Fr Nob w w') (hn : ∀ b, x.2.foot b → w.heap.size ≤ b) : Mem Nob w w' [x] :=
  ⟨hf, by simpa using hp, by intro y hy _ b hb; simp at hy; subst hy; exact .inr (hn b hb), by simp⟩

/-- The first resource is changed in place (or moved to a new block). -/
theorem Mem.upd {x y : Bool × Res} (h : Mem S w0 w (x :: R)) (hx : x.1 = true) (hy : y.1 = true) (hf : Fr x.2.foot w w') (hp : y.2.P w') (hft : ∀ b, y.2.foot b → x.2.foot b ∨ w.heap.size ≤ b) : Mem S w0 w' (y :: R) := by
  have h' : Mem S w0 w ([x] ++ R) := h
  refine h'.callo (A' := [y]) (by simp [allOwn, hx]) ?_ (by simp [allOwn, hy])
  refine ⟨hf.mono fun b hb => ⟨x, by simp, hb⟩, by simpa using hp, ?_, by simp⟩
  intro z hz _ b hb
  simp at hz
  subst hz
  rcases hft b hb with h1 | h1
  · exact .inl ⟨x, by simp, h1⟩
  · exact .inr h1

end
end Go.Proofs.Ytblbimlobacciaa
