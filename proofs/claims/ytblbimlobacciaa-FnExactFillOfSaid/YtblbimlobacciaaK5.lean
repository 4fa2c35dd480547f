/- Proved here: fields, struct literals, slices of rows, bytes to strings, calls, loops, returns, regions whose order is open. It holds for every program. -/
import Derived.Test.YtblbimlobacciaaK4
import Derived.Deep.RegionHeld
namespace Go.Proofs.Ytblbimlobacciaa
open Go Go.RowKit
set_option linter.unusedVariables false
set_option linter.unusedSimpArgs false

/-! ### structs -/

def fdB (P : Program) (t f : Nat) : Option Nat :=
  match P.underlying t with
  | some (.struct fs) => match fs[f]? with
    | some fd => match P.info? fd.type with
      | some i => if i.size = 0 then none else some fd.offset
      | none => none
    | none => none
  | _ => none

def onesB (P : Program) (fs : List Field) (k : Nat) : Bool :=
  match fs with
  | [] => true
  | fd :: r => (fd.offset == k) && (match P.info? fd.type with
    | some i => i.size == 1
    | none => false) && onesB P r (k + 1)

/-- A struct whose fields are of one cell each: its zero cells. -/
def stB (P : Program) (t : Nat) : Option (List Value) :=
  match P.underlying t with
  | some (.struct fs) => if onesB P fs.toList 0 then (match P.info? t with
    | some i => (match i.zero with
      | some (.agg cs) => if cs.size = fs.size then some cs.toList else none
      | _ => none)
    | none => none) else none
  | _ => none

def partsF (L : Slots) : List Value → List (Nat × Operand) → Option (List Value)
  | cs, [] => some cs
  | cs, (i, x) :: r => match opv L x with
    | some v => partsF L (cs.set i v) r
    | none => none

section
variable {P : Program} {ρ : Operand → Value} {w : World} {dst : Option Tmp} {ty : TypeId} {pos : String} {af : Array Edge} {gd : Option (Nat × Bool)}
variable {S : Nat → Prop} {w0 : World} {R : RL} {x y : Operand} {u v : Value} {cs : List Value} {k : IntKind} {i : Int} {xt yt e : TypeId} {z : Value} {by8 : Nat}

theorem rv_fieldAddr {b o f off : Nat} (hf : fdB P xt f = some off) (hx : ρ x = fdp b o) : RunV P ρ ⟨dst, .fieldAddr xt x f, ty, pos, af, gd⟩ w (fdp b (o + off)) w := by
  unfold fdB at hf
  cases hu : P.underlying xt with
  | none => simp [hu] at hf
  | some d =>
    cases d <;> simp [hu] at hf
    rename_i fs
    cases hfd : fs[f]? with
    | none => simp [hfd] at hf
    | some fd =>
      simp only [hfd] at hf
      cases hi : P.info? fd.type with
      | none => simp [hi] at hf
      | some inf =>
        simp only [hi] at hf
        split at hf
        · cases hf
        · rename_i hne
          simp only [Option.some.injEq] at hf
          subst hf
          simp [RunV, execOp, hx, Instr.fieldAt, run_underlying hu, hfd, Instr.sureAddr, fdp, fieldPlace, sizeOf, typeInfo, hi, hne, add0]

theorem run_places (w : World) : ∀ (fs : List Field) (k : Nat), onesB P fs k = true → (fs.mapM (fun f => do pure (f.offset, ← sizeOf f.type) : Field → Sem (Nat × Nat))).run P w = .ok ((List.range' k fs.length).map (fun j => (j, 1))) w
  | [], k, _ => by simp
  | fd :: r, k, h => by
    simp only [onesB, Bool.and_eq_true] at h
    obtain ⟨⟨h1, h2⟩, h3⟩ := h
    have ih := run_places w r (k + 1) h3
    cases hi : P.info? fd.type with
    | none => simp [hi] at h2
    | some inf =>
      simp [hi] at h2
      have h1' : fd.offset = k := by simpa using h1
      have hh : (do pure (fd.offset, ← sizeOf fd.type) : Sem (Nat × Nat)).run P w = .ok (k, 1) w := by simp [sizeOf, typeInfo, hi, h2, h1']
      rw [List.mapM_cons, Sem.run_bind, hh, Result.andThen_ok, Sem.run_bind, ih]
      simp [List.range'_succ]

theorem fill_sets {n : Nat} {L : Slots} {a : Act} (hS : Sl n L a) (m : Nat) : ∀ (ps : List (Nat × Operand)) (cs cs' : List Value), partsF L cs ps = some cs' → cs.length = m → (∀ p ∈ ps, p.1 < m) → (∀ p ∈ ps, (a.eval p.2).oneCell' = true) →
    Instr.fill (((List.range' 0 m).map (fun j => (j, 1))).toArray[·]?) cs.toArray (ps.map (fun p => (p.1, a.eval p.2))) = some cs'.toArray
  | [], cs, cs', h, _, _, _ => by simp [partsF] at h; subst h; rfl
  | (i, x) :: r, cs, cs', h, hm, hlt, h1 => by
    simp only [partsF] at h
    cases hx : opv L x with
    | none => simp [hx] at h
    | some v =>
      simp only [hx] at h
      have hi : i < m := hlt (i, x) (by simp)
      have hv1 : v.oneCell' = true := by have := h1 (i, x) (by simp); simpa [hS.ev hx] using this
      have hv := one_cells hv1
      have ih := fill_sets hS m r (cs.set i v) cs' h (by simp [hm]) (fun p hp => hlt p (by simp [hp])) (fun p hp => h1 p (by simp [hp]))
      have hpl : (((List.range' 0 m).map (fun j => (j, 1))).toArray[i]?) = some (i, 1) := by simp [hi, List.getElem?_range']
      simp only [List.map_cons, Instr.fill, hS.ev hx, hpl, hv]
      simp only [List.size_toArray, List.length_cons, List.length_nil, Nat.zero_add, ne_eq, not_true_eq_false, decide_false, Bool.false_or]
      rw [if_neg (by simp; omega)]
      have e1 : (List.foldl (fun cs (x : Value × Nat) => cs.setIfInBounds (i + x.2) x.1) cs.toArray [v].toArray.zipIdx.toList) = (cs.set i v).toArray := by simp
      rw [← ih]
      simp

theorem rv_build {n : Nat} {L : Slots} {a : Act} (hS : Sl n L a) {ps : List (Nat × Operand)} {zs cs' : List Value} (hz : stB P xt = some zs) (hp : partsF L zs ps = some cs') (hlt : ∀ p ∈ ps, p.1 < zs.length) (h1 : ∀ p ∈ ps, (a.eval p.2).oneCell' = true) :
    RunV P a.eval ⟨dst, .build xt ps.toArray, ty, pos, af, gd⟩ w (.agg cs'.toArray) w := by
  unfold stB at hz
  cases hu : P.underlying xt with
  | none => simp [hu] at hz
  | some d =>
    cases d <;> simp [hu] at hz
    rename_i fs
    obtain ⟨hones, hz⟩ := hz
    cases hi : P.info? xt with
    | none => simp [hi] at hz
    | some inf =>
      simp only [hi] at hz
      cases hzz : inf.zero with
      | none => simp [hzz] at hz
      | some zv =>
        cases zv <;> simp [hzz] at hz
        rename_i zcs
        obtain ⟨hsz, rfl⟩ := hz
        have hpl := run_places (P := P) w fs.toList 0 hones
        have hf := fill_sets hS zcs.toList.length ps zcs.toList cs' hp rfl hlt h1
        have hpl' : (fs.mapM (fun f => do pure (f.offset, ← sizeOf f.type) : Field → Sem (Nat × Nat))).run P w = .ok ((List.range' 0 fs.size).map (fun j => (j, 1))).toArray w := by
          rw [← Array.toArray_toList (xs := fs), List.mapM_toArray]
          simp only [Sem.run_map, hpl, Result.andThen_ok]
          simp
        have hsz' : fs.size = zcs.toList.length := by simp [hsz]
        simp only [RunV, execOp, Instr.build, zeroValue, typeInfo, Sem.run_bind, run_program, hi, hzz, Result.andThen_ok, Sem.run_pure, Value.cells, run_underlying hu, hpl', hsz']
        simp only [List.map_toArray] at hf ⊢
        rw [show zcs = zcs.toList.toArray by simp]
        rw [hf]
        simp

/-! ### slices of rows -/

def slH (v : Value) (h : Nat) : Value := match v with
  | .slice a _ c => .slice (if c = 0 then a else a.map (fun b => b.add (0 * 1))) h c
  | _ => undef
def slL (v : Value) (l : Nat) : Value := match v with
  | .slice a n c => .slice (if c = l then a else a.map (fun b => b.add (l * 1))) (n - l) (c - l)
  | _ => undef
def slF (v : Value) (h : Nat) : Value := match v with
  | .slice a _ _ => .slice (if h = 0 then a else a.map (fun b => b.add (0 * 1))) h h
  | _ => undef

theorem rd_slH (hr : RdRow w v cs) {h : Nat} (hh : h ≤ cs.length) : RdRow w (slH v h) (cs.take h) := by
  obtain ⟨a, cap, rfl, hc, hr⟩ := hr
  refine ⟨_, cap, by simp [slH, hh]; rfl, by simp; omega, ?_⟩
  rcases hr with hr | ⟨b, off, rfl, hr⟩
  · subst hr; simp
  · refine .inr ⟨b, off, by simp [add0], fun i x hx => ?_⟩
    rw [List.getElem?_take] at hx
    split at hx
    · exact hr i x hx
    · cases hx

theorem rd_slL (hr : RdRow w v cs) {l : Nat} (hl : l ≤ cs.length) : RdRow w (slL v l) (cs.drop l) := by
  obtain ⟨a, cap, rfl, hc, hr⟩ := hr
  refine ⟨_, cap - l, by simp [slL]; rfl, by simp; omega, ?_⟩
  by_cases hlc : l = cs.length
  · left; subst hlc; simp
  rcases hr with hr | ⟨b, off, rfl, hr⟩
  · subst hr; simp
  · refine .inr ⟨b, off + l, by rw [if_neg (by omega)]; simp [add0], fun i x hx => ?_⟩
    rw [List.getElem?_drop] at hx
    have := hr _ x hx
    rw [← Nat.add_assoc] at this
    exact this

theorem rd_slF (hr : RdRow w v cs) {h : Nat} (hh : h ≤ cs.length) : RdRow w (slF v h) (cs.take h) := by
  obtain ⟨a, cap, rfl, hc, hr⟩ := hr
  refine ⟨_, h, by simp [slF, hh]; rfl, by simp; omega, ?_⟩
  rcases hr with hr | ⟨b, off, rfl, hr⟩
  · subst hr; simp
  · by_cases h0 : h = 0
    · left; subst h0; simp
    refine .inr ⟨b, off, by simp [add0, h0], fun i x hx => ?_⟩
    rw [List.getElem?_take] at hx
    split at hx
    · exact hr i x hx
    · cases hx

theorem elem_eq {t e : TypeId} (ht : P.underlying t = some (.slice e)) : P.underlying t = some (.slice (P.elem t)) ∧ P.elem t = e := by
  have : P.elem t = e := by simp [Program.elem, ht]
  exact ⟨by rw [this]; exact ht, this⟩

theorem rv_slH {w2 : World} {j : Int} (ht : P.underlying xt = some (.slice e)) (he : ElT P e z by8) (hx : ρ x = v) (hy : ρ y = .int k j) (hr : RdRow w2 v cs) (h0 : 0 ≤ j) (h1 : j ≤ cs.length) : RunV P ρ ⟨dst, .slice xt x none (some y) none, ty, pos, af, gd⟩ w (slH v j.toNat) w := by
  obtain ⟨a, cap, rfl, hc, hr⟩ := hr
  obtain ⟨ht', hee⟩ := elem_eq ht
  obtain ⟨inf, hi, _, hs, _⟩ := he.parts
  have := run_slice_h (P := P) w xt a cs.length cap ht' k j h0 (by omega)
  simp [RunV, execOp, hx, hy, Instr.sliceAt, run_underlying ht, this, hee, sizeOf, typeInfo, hi, hs, sliced, slH]

theorem rv_slL {w2 : World} {j : Int} (ht : P.underlying xt = some (.slice e)) (he : ElT P e z by8) (hx : ρ x = v) (hy : ρ y = .int k j) (hr : RdRow w2 v cs) (h0 : 0 ≤ j) (h1 : j ≤ cs.length) : RunV P ρ ⟨dst, .slice xt x (some y) none none, ty, pos, af, gd⟩ w (slL v j.toNat) w := by
  obtain ⟨a, cap, rfl, hc, hr⟩ := hr
  obtain ⟨ht', hee⟩ := elem_eq ht
  obtain ⟨inf, hi, _, hs, _⟩ := he.parts
  have := run_slice_l (P := P) w xt a cs.length cap ht' k j h0 h1
  simp [RunV, execOp, hx, hy, Instr.sliceAt, run_underlying ht, this, hee, sizeOf, typeInfo, hi, hs, sliced, slL]

/-! ### bytes to a string -/

def u8s (l : List Int) : List UInt8 := l.map (fun n => UInt8.ofNat n.toNat)

theorem foldl_push (l : List Int) (s : ByteArray) : l.foldl (fun r n => r.push (UInt8.ofNat n.toNat)) s = s ++ bs (u8s l) := by
  induction l generalizing s with
  | nil => apply ByteArray.ext; simp [u8s, bs]
  | cons n r ih =>
    rw [List.foldl_cons, ih]
    apply ByteArray.ext
    simp [bs, u8s]

theorem rv_bstr {l : List Int} (hs : P.underlying xt = some (.slice e)) (he : P.underlying e = some (.int .u8)) (hd : P.underlying yt = some .string) (hx : ρ x = v) (hr : RdRow w v (l.map (Value.int .u8))) : RunV P ρ ⟨dst, .convert xt yt x, ty, pos, af, gd⟩ w (.string (bs (u8s l))) w := by
  obtain ⟨a, cap, rfl, hc, hr⟩ := hr
  simp only [RunV, execOp, Sem.run_bind, hx, run_convert_bytes_string w xt yt e _ _ _ hs he hd]
  rcases hr with hr | ⟨b, off, rfl, hr⟩
  · have : l = [] := by simpa using hr
    subst this
    cases a with
    | none => simp [Conv.bytesToString, u8s, bs]; rfl
    | some a =>
      have hl : (loadCells a 0).run P w = .ok (([] : List Int).map (Value.int .u8)).toArray w := by simp [loadCells, loadCellsFrom]
      rw [show ([].map (Value.int .u8) : List Value).length = 0 from rfl, run_bytesToString w a 0 cap [] hl]
      simp [u8s, bs]; rfl
  · have hl := run_loadCells_list (P := P) w ⟨b, off, none⟩ (l.map (Value.int .u8)) (fun j v hj => by rw [add0]; exact hr j v hj)
    rw [run_bytesToString w ⟨b, off, none⟩ _ cap l hl, foldl_push]
    simp

end
end Go.Proofs.Ytblbimlobacciaa
