/- Proved here: what one operation yields. It holds for every program. -/
import Derived.Test.YtblbimlobacciaaK1
namespace Go.Proofs.Ytblbimlobacciaa
open Go Go.RowKit
set_option linter.unusedVariables false
set_option linter.unusedSimpArgs false

def ElT (P : Program) (e : TypeId) (z : Value) (bytes : Nat) : Prop := (P.info? e).map (fun i => (i.zero, i.size, i.bytes)) = some (some z, 1, bytes)

theorem ElT.parts {P : Program} {e : TypeId} {z : Value} {bytes : Nat} (h : ElT P e z bytes) : ∃ i, P.info? e = some i ∧ i.zero = some z ∧ i.size = 1 ∧ i.bytes = bytes := by
  unfold ElT at h
  cases hi : P.info? e with
  | none => simp [hi] at h
  | some i => simp [hi] at h; exact ⟨i, rfl, h⟩

def aggB (P : Program) (t : TypeId) : Option Bool :=
  match P.underlying t with
  | some (.struct _) => some true
  | some (.array _ _) => some true
  | some _ => some false
  | none => none

theorem one_cells {v : Value} (h : v.oneCell' = true) : v.cells = #[v] := by cases v <;> first | rfl | cases h

section
variable {P : Program} {ρ : Operand → Value} {w w' : World} {dst : Option Tmp} {ty : TypeId} {pos : String} {af : Array Edge} {gd : Option (Nat × Bool)}

theorem rv_move {x : Operand} {v : Value} (hx : ρ x = v) : RunV P ρ ⟨dst, .move x, ty, pos, af, gd⟩ w v w := by
  simp [RunV, execOp, hx]
theorem rv_assign {x : Operand} {v : Value} (hx : ρ x = v) : RunV P ρ ⟨dst, .assign x, ty, pos, af, gd⟩ w v w := by
  simp [RunV, execOp, hx]
theorem rv_pick_t {c x y : Operand} {v : Value} (hc : ρ c = .bool true) (hx : ρ x = v) : RunV P ρ ⟨dst, .pick c x y, ty, pos, af, gd⟩ w v w := by
  simp [RunV, execOp, hx, hc, asBool]
theorem rv_pick_f {c x y : Operand} {v : Value} (hc : ρ c = .bool false) (hy : ρ y = v) : RunV P ρ ⟨dst, .pick c x y, ty, pos, af, gd⟩ w v w := by
  simp [RunV, execOp, hy, hc, asBool]

section
variable {x y : Operand} {k k2 : IntKind} {a b : Int} {xt yt : TypeId}
theorem rv_add (hx : ρ x = .int k a) (hy : ρ y = .int k b) : RunV P ρ ⟨dst, .binOp .add xt x y yt, ty, pos, af, gd⟩ w (.int k (k.wrap (a + b))) w := by
  simp [RunV, execOp, hx, hy, binOp, Op.intArith, eqGuard]
theorem rv_sub (hx : ρ x = .int k a) (hy : ρ y = .int k b) : RunV P ρ ⟨dst, .binOp .sub xt x y yt, ty, pos, af, gd⟩ w (.int k (k.wrap (a - b))) w := by
  simp [RunV, execOp, hx, hy, binOp, Op.intArith, eqGuard]
theorem rv_mul (hx : ρ x = .int k a) (hy : ρ y = .int k b) : RunV P ρ ⟨dst, .binOp .mul xt x y yt, ty, pos, af, gd⟩ w (.int k (k.wrap (a * b))) w := by
  simp [RunV, execOp, hx, hy, binOp, Op.intArith, eqGuard]
theorem rv_quo (hx : ρ x = .int k a) (hy : ρ y = .int k b) (hb : b ≠ 0) : RunV P ρ ⟨dst, .binOp .quo xt x y yt, ty, pos, af, gd⟩ w (.int k (k.wrap (a.tdiv b))) w := by
  simp [RunV, execOp, hx, hy, binOp, Op.intDiv, hb, eqGuard]
theorem rv_rem (hx : ρ x = .int k a) (hy : ρ y = .int k b) (hb : b ≠ 0) : RunV P ρ ⟨dst, .binOp .rem xt x y yt, ty, pos, af, gd⟩ w (.int k (a.tmod b)) w := by
  simp [RunV, execOp, hx, hy, binOp, Op.intDiv, hb, eqGuard]
end

def bAnd (x y : Int) : Int := IntKind.i64.wrap ((BitVec.ofInt 64 x &&& BitVec.ofInt 64 y).toNat : Int)
def bOr (x y : Int) : Int := IntKind.i64.wrap ((BitVec.ofInt 64 x ||| BitVec.ofInt 64 y).toNat : Int)
def bXor (x y : Int) : Int := IntKind.i64.wrap ((BitVec.ofInt 64 x ^^^ BitVec.ofInt 64 y).toNat : Int)
def bAndNot (x y : Int) : Int := IntKind.i64.wrap ((BitVec.ofInt 64 x &&& ~~~ (BitVec.ofInt 64 y)).toNat : Int)
def shL (x y : Int) : Int := IntKind.i64.wrap (x * 2 ^ (min y.toNat 64))
def shR (x y : Int) : Int := x.fdiv (2 ^ (min y.toNat 64))

section
variable {x y : Operand} {k2 : IntKind} {a b : Int} {xt yt : TypeId}
theorem rv_and (hx : ρ x = .int .i64 a) (hy : ρ y = .int .i64 b) : RunV P ρ ⟨dst, .binOp .and xt x y yt, ty, pos, af, gd⟩ w (.int .i64 (bAnd a b)) w := by
  simp [RunV, execOp, hx, hy, binOp, Op.intBits, eqGuard]; rfl
theorem rv_or (hx : ρ x = .int .i64 a) (hy : ρ y = .int .i64 b) : RunV P ρ ⟨dst, .binOp .or xt x y yt, ty, pos, af, gd⟩ w (.int .i64 (bOr a b)) w := by
  simp [RunV, execOp, hx, hy, binOp, Op.intBits, eqGuard]; rfl
theorem rv_xor (hx : ρ x = .int .i64 a) (hy : ρ y = .int .i64 b) : RunV P ρ ⟨dst, .binOp .xor xt x y yt, ty, pos, af, gd⟩ w (.int .i64 (bXor a b)) w := by
  simp [RunV, execOp, hx, hy, binOp, Op.intBits, eqGuard]; rfl
theorem rv_andNot (hx : ρ x = .int .i64 a) (hy : ρ y = .int .i64 b) : RunV P ρ ⟨dst, .binOp .andNot xt x y yt, ty, pos, af, gd⟩ w (.int .i64 (bAndNot a b)) w := by
  have h : binOp .andNot xt (.int .i64 a) (.int .i64 b) = pure (.int .i64 (bAndNot a b)) := rfl
  simp [RunV, execOp, hx, hy, h, eqGuard]
theorem rv_shl (hx : ρ x = .int .i64 a) (hy : ρ y = .int k2 b) (hb : 0 ≤ b) : RunV P ρ ⟨dst, .binOp .shl xt x y yt, ty, pos, af, gd⟩ w (.int .i64 (shL a b)) w := by
  have : ¬ b < 0 := by omega
  simp [RunV, execOp, hx, hy, binOp, Op.shift, eqGuard, shL, this, IntKind.bits]
theorem rv_shr (hx : ρ x = .int .i64 a) (hy : ρ y = .int k2 b) (hb : 0 ≤ b) : RunV P ρ ⟨dst, .binOp .shr xt x y yt, ty, pos, af, gd⟩ w (.int .i64 (shR a b)) w := by
  have : ¬ b < 0 := by omega
  simp [RunV, execOp, hx, hy, binOp, Op.shift, eqGuard, shR, this, IntKind.bits]
end

section
variable {x y : Operand} {k : IntKind} {a b : Int} {xt yt : TypeId} {p q : Bool}
theorem rv_eql (hx : ρ x = .int k a) (hy : ρ y = .int k b) : RunV P ρ ⟨dst, .binOp .eql xt x y yt, ty, pos, af, gd⟩ w (.bool (a == b)) w := by
  simp [RunV, execOp, hx, hy, binOp, Op.intCmp, eqGuard]
theorem rv_neq (hx : ρ x = .int k a) (hy : ρ y = .int k b) : RunV P ρ ⟨dst, .binOp .neq xt x y yt, ty, pos, af, gd⟩ w (.bool (a != b)) w := by
  simp [RunV, execOp, hx, hy, binOp, Op.intCmp, eqGuard]
theorem rv_lss (hx : ρ x = .int k a) (hy : ρ y = .int k b) : RunV P ρ ⟨dst, .binOp .lss xt x y yt, ty, pos, af, gd⟩ w (.bool (decide (a < b))) w := by
  simp [RunV, execOp, hx, hy, binOp, Op.intCmp, eqGuard]
theorem rv_leq (hx : ρ x = .int k a) (hy : ρ y = .int k b) : RunV P ρ ⟨dst, .binOp .leq xt x y yt, ty, pos, af, gd⟩ w (.bool (decide (a ≤ b))) w := by
  simp [RunV, execOp, hx, hy, binOp, Op.intCmp, eqGuard]
theorem rv_gtr (hx : ρ x = .int k a) (hy : ρ y = .int k b) : RunV P ρ ⟨dst, .binOp .gtr xt x y yt, ty, pos, af, gd⟩ w (.bool (decide (b < a))) w := by
  simp [RunV, execOp, hx, hy, binOp, Op.intCmp, eqGuard]
theorem rv_geq (hx : ρ x = .int k a) (hy : ρ y = .int k b) : RunV P ρ ⟨dst, .binOp .geq xt x y yt, ty, pos, af, gd⟩ w (.bool (decide (b ≤ a))) w := by
  simp [RunV, execOp, hx, hy, binOp, Op.intCmp, eqGuard]
theorem rv_beql (ht : P.underlying xt = some .bool) (hx : ρ x = .bool p) (hy : ρ y = .bool q) : RunV P ρ ⟨dst, .binOp .eql xt x y yt, ty, pos, af, gd⟩ w (.bool (p == q)) w := by
  simp [RunV, execOp, hx, hy, eqGuard, run_eql_bool _ _ _ _ ht]
theorem rv_bneq (ht : P.underlying xt = some .bool) (hx : ρ x = .bool p) (hy : ρ y = .bool q) : RunV P ρ ⟨dst, .binOp .neq xt x y yt, ty, pos, af, gd⟩ w (.bool (p != q)) w := by
  simp [RunV, execOp, hx, hy, eqGuard, run_neq_bool _ _ _ _ ht, bne]
theorem rv_not (hx : ρ x = .bool p) : RunV P ρ ⟨dst, .unOp .not xt x, ty, pos, af, gd⟩ w (.bool (!p)) w := by
  simp [RunV, execOp, hx, Op.unary]
theorem rv_neg (hx : ρ x = .int k a) : RunV P ρ ⟨dst, .unOp .neg xt x, ty, pos, af, gd⟩ w (.int k (k.wrap (0 - a))) w := by
  simp [RunV, execOp, hx, Op.unary, Op.intArith]
theorem rv_conv {k2 : IntKind} {d : TypeDesc} (hs : P.underlying xt = some d) (ht : P.underlying yt = some (.int k2)) (hx : ρ x = .int k a) : RunV P ρ ⟨dst, .convert xt yt x, ty, pos, af, gd⟩ w (.int k2 (k2.wrap a)) w := by
  simp [RunV, execOp, hx, convert, run_underlying ht, run_underlying hs, Conv.intToInt]
theorem rv_extract {vs : List Value} {i : Nat} {v : Value} (hx : ρ x = .tuple vs.toArray) (hv : vs[i]? = some v) : RunV P ρ ⟨dst, .extract x i, ty, pos, af, gd⟩ w v w := by
  simp [RunV, execOp, hx, Instr.extract, hv]
theorem rv_min2 {ts : Array TypeId} (hx : ρ x = .int k a) (hy : ρ y = .int k b) : RunV P ρ ⟨dst, .call ⟨.builtin .min, #[x, y], ts⟩, ty, pos, af, gd⟩ w (.int k (if b < a then b else a)) w := by
  simp [RunV, execOp, resolve, invoke, builtin, Builtin.min_, Builtin.min2, hx, hy]
end

/-! ### Strings -/

def bs (l : List UInt8) : ByteArray := ⟨l.toArray⟩
theorem bs_toList (l : List UInt8) : (bs l).toList = l := by simp [bs]
theorem bs_size (l : List UInt8) : (bs l).size = l.length := by simp [bs, ByteArray.size]
theorem bs_data (s : ByteArray) : bs s.data.toList = s := by simp [bs]
theorem bs_append (a b : List UInt8) : bs a ++ bs b = bs (a ++ b) := by
  apply ByteArray.ext; simp [bs]

section
variable {x y : Operand} {s t : List UInt8} {xt yt : TypeId}
theorem rv_len_str {ts : TypeId} (ht : P.underlying ts = some .string) (hx : ρ x = .string (bs s)) : RunV P ρ ⟨dst, .call ⟨.builtin .len, #[x], #[ts]⟩, ty, pos, af, gd⟩ w (.int .i64 (s.length : Int)) w := by
  simp [RunV, execOp, resolve, invoke, builtin, Builtin.len_, hx, run_underlying ht, goInt, bs_size]
theorem rv_index {k : IntKind} {i : Int} {b : UInt8} (ht : P.underlying xt = some .string) (hx : ρ x = .string (bs s)) (hy : ρ y = .int k i) (h0 : 0 ≤ i) (hb : s[i.toNat]? = some b) : RunV P ρ ⟨dst, .index xt x y, ty, pos, af, gd⟩ w (.int .u8 (b.toNat : Int)) w := by
  have hlt : i.toNat < (bs s).size := by rw [bs_size]; exact (List.getElem?_eq_some_iff.1 hb).1
  have hg : (bs s)[i.toNat]? = some b := by
    rw [ByteArray.getElem?_lt' _ _ hlt]
    congr 1
    have := (List.getElem?_eq_some_iff.1 hb).2
    simpa [bs, ByteArray.getElem_eq_getElem_data] using this
  simp [RunV, execOp, hx, hy, Instr.index, run_underlying ht, asIntOf, h0, hg]
theorem rv_str_eql (hx : ρ x = .string (bs s)) (hy : ρ y = .string (bs t)) : RunV P ρ ⟨dst, .binOp .eql xt x y yt, ty, pos, af, gd⟩ w (.bool (s == t)) w := by
  simp [RunV, execOp, hx, hy, binOp, Op.stringOp, eqGuard, bs_toList]
theorem rv_str_neq (hx : ρ x = .string (bs s)) (hy : ρ y = .string (bs t)) : RunV P ρ ⟨dst, .binOp .neq xt x y yt, ty, pos, af, gd⟩ w (.bool (s != t)) w := by
  simp [RunV, execOp, hx, hy, binOp, Op.stringOp, eqGuard, bs_toList, bne]
theorem rv_str_add (hx : ρ x = .string (bs s)) (hy : ρ y = .string (bs t)) (hl : s.length + t.length < 1099511627776) : RunV P ρ ⟨dst, .binOp .add xt x y yt, ty, pos, af, gd⟩ w (.string (bs (s ++ t))) w := by
  have hm : IntKind.i64.max = 9223372036854775807 := rfl
  have : ¬ (((bs s).size + (bs t).size : Nat) : Int) > IntKind.i64.max := by rw [bs_size, bs_size, hm]; omega
  simp only [RunV, execOp, hx, hy, binOp, Op.stringOp, eqGuard, bs_append]
  simp only [if_neg this]
  simp
theorem rv_str_slice {lo hi : Operand} {i j : Int} {k1 k2 : IntKind} (ht : P.underlying xt = some .string) (hx : ρ x = .string (bs s)) (hlo : ρ lo = .int k1 i) (hhi : ρ hi = .int k2 j) (h0 : 0 ≤ i) (h1 : i ≤ j) (h2 : j ≤ s.length) :
    RunV P ρ ⟨dst, .slice xt x (some lo) (some hi) none, ty, pos, af, gd⟩ w (.string (bs ((s.drop i.toNat).take (j.toNat - i.toNat)))) w := by
  have h3 : j ≤ (bs s).size := by rw [bs_size]; exact h2
  have h0j : 0 ≤ j := by omega
  have hjn : (j.toNat : Int) = j := by omega
  have e : (bs s).extract i.toNat j.toNat = bs ((s.drop i.toNat).take (j.toNat - i.toNat)) := by
    apply ByteArray.ext
    simp only [bs, ByteArray.data_extract]
    apply Array.ext'
    simp [List.extract_eq_take_drop]
  simp [RunV, execOp, hx, hlo, hhi, Instr.sliceAt, Instr.slice, run_underlying ht, Instr.sliceBounds, Instr.sliceBound, asIntOf, h0, h0j, h3, h1, e, hjn]
end


/-! ### Memory -/

def elp (v : Value) (i : Nat) : Value := match v with
  | .slice (some a) _ _ => .pointer (some (a.add i))
  | _ => undef

def fdp (b off : Nat) : Value := .pointer (some ⟨b, off, none⟩)

theorem add0 (b o i : Nat) : (⟨b, o, none⟩ : Addr).add i = ⟨b, o + i, none⟩ := by unfold Addr.add; split <;> simp_all

theorem mget {α β : Type} {l : List α} {i : Nat} {z : α} {f : α → β} (h : l[i]? = some z) : (l.map f)[i]? = some (f z) := by simp [h]

section
variable {x y : Operand} {v u : Value} {cs : List Value} {k : IntKind} {i : Int} {xt yt e : TypeId} {z : Value} {by8 : Nat}

theorem rv_len_row {ts : TypeId} {w2 : World} (ht : P.underlying ts = some (.slice e)) (hx : ρ x = v) (hr : RdRow w2 v cs) : RunV P ρ ⟨dst, .call ⟨.builtin .len, #[x], #[ts]⟩, ty, pos, af, gd⟩ w (.int .i64 (cs.length : Int)) w := by
  obtain ⟨a, cap, rfl, _⟩ := hr
  simp [RunV, execOp, resolve, invoke, builtin, Builtin.len_, hx, run_underlying ht, goInt]

theorem rv_indexAddr {w2 : World} (ht : P.underlying xt = some (.slice e)) (he : ElT P e z by8) (hx : ρ x = v) (hy : ρ y = .int k i) (hr : RdRow w2 v cs) (h0 : 0 ≤ i) (h1 : i.toNat < cs.length) : RunV P ρ ⟨dst, .indexAddr xt x y, ty, pos, af, gd⟩ w (elp v i.toNat) w := by
  obtain ⟨a, cap, rfl, hc, h⟩ := hr
  obtain ⟨inf, hi, _, hs, _⟩ := he.parts
  rcases h with h | ⟨b, off, rfl, h⟩
  · subst h; simp at h1
  · have h2 : i < (cs.length : Int) := by omega
    simp [RunV, execOp, hx, hy, Instr.indexAt, run_underlying ht, asIntOf, h0, h2, sizeOf, typeInfo, hi, hs, elp]

theorem run_loadVar1 {t : TypeId} {a : Addr} (hA : aggB P t = some false) (hc : w.cell? a = some u) : (loadVar t a).run P w = .ok u w := by
  unfold aggB at hA
  unfold loadVar isAgg
  cases hu : P.underlying t with
  | none => simp [hu] at hA
  | some d =>
    simp only [hu] at hA
    cases d <;> simp at hA <;> simp [run_underlying hu, hc]

theorem rd_cell (hr : RdRow w v cs) {n : Nat} (hc : cs[n]? = some u) : ∃ a, elp v n = .pointer (some a) ∧ w.cell? a = some u := by
  obtain ⟨a, cap, rfl, _, h⟩ := hr
  rcases h with h | ⟨b, off, rfl, h⟩
  · subst h; simp at hc
  · exact ⟨_, rfl, by rw [add0]; exact h _ _ hc⟩

theorem rv_load_el {n : Nat} (hx : ρ x = elp v n) (hA : aggB P xt = some false) (hr : RdRow w v cs) (hc : cs[n]? = some u) : RunV P ρ ⟨dst, .load xt x, ty, pos, af, gd⟩ w u w := by
  obtain ⟨a, ha, hca⟩ := rd_cell hr hc
  simp [RunV, execOp, hx, ha, Instr.loadAt, Instr.sureAddr, run_loadVar1 hA hca]

theorem bx_cell {b : Nat} {T : TypeId} (hb : (bx b T cs).P w) {n : Nat} (hc : cs[n]? = some u) : w.cell? ⟨b, n, none⟩ = some u := by
  have : w.heap[b]? = some (.cells cs.toArray T (0, 0)) := hb
  simp [World.cell?, this, hc]

theorem rv_load_bx {b n : Nat} {T : TypeId} (hx : ρ x = fdp b n) (hA : aggB P xt = some false) (hb : (bx b T cs).P w) (hc : cs[n]? = some u) : RunV P ρ ⟨dst, .load xt x, ty, pos, af, gd⟩ w u w := by
  simp [RunV, execOp, hx, fdp, Instr.loadAt, Instr.sureAddr, run_loadVar1 hA (bx_cell hb hc)]

theorem rv_load_agg {b : Nat} {T : TypeId} (hx : ρ x = fdp b 0) (hA : aggB P xt = some true) (hb : (bx b T cs).P w) (hs : (P.info? xt).map (fun i => i.size) = some cs.length) : RunV P ρ ⟨dst, .load xt x, ty, pos, af, gd⟩ w (.agg cs.toArray) w := by
  unfold aggB at hA
  cases hi : P.info? xt with
  | none => simp [hi] at hs
  | some inf =>
    simp [hi] at hs
    have hl := run_loadCells_list (P := P) w ⟨b, 0, none⟩ cs (fun j v hj => by rw [add0, Nat.zero_add]; exact bx_cell hb hj)
    rw [← hs] at hl
    cases hu : P.underlying xt with
    | none => simp [hu] at hA
    | some d =>
      simp only [hu] at hA
      cases d <;> simp at hA <;> simp [RunV, execOp, hx, fdp, Instr.loadAt, Instr.sureAddr, loadVar, isAgg, run_underlying hu, sizeOf, typeInfo, hi, hl]

/-- A field's address: the offset is the closed fact's. -/
def FdT (P : Program) (t : TypeId) (f off : Nat) : Prop := ∃ fs fd, P.underlying t = some (.struct fs) ∧ fs[f]? = some fd ∧ fd.offset = off

end

/-! ### Blocks that are made -/

theorem bx_new (w : World) (T : TypeId) (cs : List Value) : (bx w.heap.size T cs).P (w.alloc (.cells cs.toArray T)) := heap_alloc_new w _

theorem Mem.box {S : Nat → Prop} {w0 : World} {R : RL} (h : Mem S w0 w R) (T : TypeId) (cs : List Value) : Mem S w0 (w.alloc (.cells cs.toArray T)) ((true, bx w.heap.size T cs) :: R) :=
  h.add (N := [(true, bx w.heap.size T cs)]) (Mem.one (bx_new w T cs) (Fr.alloc w _) (fun b hb => by rw [show b = w.heap.size from hb]; exact Nat.le_refl _)) rfl

theorem rv_box {x : Operand} {v : Value} {T : TypeId} {cs : List Value} (hx : ρ x = v) (hv : v.cells = cs.toArray) : RunV P ρ ⟨dst, .box T x, ty, pos, af, gd⟩ w (fdp w.heap.size 0) (w.alloc (.cells cs.toArray T)) := by
  simp [RunV, execOp, hx, Instr.box, newVar, newRow, hv, fdp]

theorem rv_alloc {T : TypeId} {zv : Value} {cs : List Value} (hz : (P.info? T).map (fun i => i.zero) = some (some zv)) (hv : zv.cells = cs.toArray) : RunV P ρ ⟨dst, .alloc T, ty, pos, af, gd⟩ w (fdp w.heap.size 0) (w.alloc (.cells cs.toArray T)) := by
  cases hi : P.info? T with
  | none => simp [hi] at hz
  | some inf =>
    simp [hi] at hz
    simp [RunV, execOp, Instr.alloc, zeroValue, typeInfo, hi, hz, newVar, newRow, hv, fdp]

end
end Go.Proofs.Ytblbimlobacciaa
