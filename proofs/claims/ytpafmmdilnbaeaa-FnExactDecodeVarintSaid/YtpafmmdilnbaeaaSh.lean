/- Proved here: nothing but what each Go function of the seat computes, as printed by my translator -/
import Derived.Test.YtpafmmdilnbaeaaK8
namespace Go.Proofs.Ytpafmmdilnbaeaa
open Go Go.RowKit
set_option linter.unusedVariables false
set_option linter.unusedSimpArgs false
set_option maxRecDepth 100000

def S_spec_l1In_j1 (F : Nat) (p3 : Bool) : Option (Bool) :=
  some p3

def S_spec_l1In (F : Nat) (p0_x : Int) (p1_low : Int) (p2_high : Int) : Option (Bool) :=
  (if (decide (p1_low ≤ p0_x)) = true then S_spec_l1In_j1 F (decide (p0_x ≤ p2_high)) else S_spec_l1In_j1 F false)

def S_spec_EncodeVarint_j1 (F : Nat) (x34 : Int) (l36 : List Int) : Option ((List UInt8)) :=
  ((catO l36.length ([(IntKind.u8.wrap x34)] : List (Int)).length).bind fun _ => some (u8s (l36 ++ ([(IntKind.u8.wrap x34)] : List (Int)))))

def S_spec_EncodeVarint_l2 (F : Nat) (x42 : Int) (l44 : List Int) : Option ((Int × (List Int)) ⊕ ((Int × (List Int)))) :=
  (if (decide ((128 : Int) ≤ x42)) = true then ((catO l44.length ([(IntKind.u8.wrap (IntKind.i64.wrap (128 + (x42.tmod 128))))] : List (Int)).length).bind fun _ => some (Sum.inl ((IntKind.i64.wrap (x42.tdiv 128)), (l44 ++ ([(IntKind.u8.wrap (IntKind.i64.wrap (128 + (x42.tmod 128))))] : List (Int)))))) else some (Sum.inr (x42, l44)))

def S_spec_EncodeVarint (F : Nat) (p0_n : Int) : Option ((List UInt8)) :=
  ((S_spec_l1In F p0_n 0 562949953421311).bind fun r9 => (if (!r9) = true then some ([] : List UInt8) else (loopN (σ := (Int × (List Int))) (β := ((Int × (List Int)))) (fun s => S_spec_EncodeVarint_l2 F s.1 s.2) F (p0_n, ([] : List (Int)))).bind (fun b => S_spec_EncodeVarint_j1 F b.1 b.2)))

def S_spec_DecodeVarint_j1 (F : Nat) : Option (Int × Int) :=
  some (0, 0)

def S_spec_DecodeVarint_j4 (F : Nat) (p0_s : List UInt8) (x167 : Int) (x308 : Int) : Option ((Int) ⊕ (Unit ⊕ (Int × Int))) :=
  ((sl2O p0_s.length 0 x167).bind fun _ => ((S_spec_EncodeVarint F x308).bind fun r311 => (if (r311 == ((p0_s.drop (0 : Int).toNat).take (x167.toNat - (0 : Int).toNat))) = true then some (Sum.inr (Sum.inr (x308, x167))) else some (Sum.inl (IntKind.i64.wrap (x167 + 1))))))

def S_spec_DecodeVarint_l5 (F : Nat) (p0_s : List UInt8) (x314 : Int) (x315 : Int) : Option ((Int × Int) ⊕ (Int)) :=
  (if (decide ((0 : Int) ≤ x315)) = true then ((idxL p0_s x315).bind fun x327 => some (Sum.inl ((IntKind.i64.wrap ((IntKind.i64.wrap (x314 * 128)) + ((IntKind.i64.wrap (x327.toNat : Int)).tmod 128))), (IntKind.i64.wrap (x315 - 1))))) else some (Sum.inr x314))

def S_spec_DecodeVarint_j3 (F : Nat) (p0_s : List UInt8) (x167 : Int) (p252 : Bool) : Option ((Int) ⊕ (Unit ⊕ (Int × Int))) :=
  (if p252 = true then (loopN (σ := (Int × Int)) (β := Int) (fun s => S_spec_DecodeVarint_l5 F p0_s s.1 s.2) F (0, (IntKind.i64.wrap (x167 - 1)))).bind (fun b => S_spec_DecodeVarint_j4 F p0_s x167 b) else some (Sum.inr (Sum.inl ())))

def S_spec_DecodeVarint_l2 (F : Nat) (p0_s : List UInt8) (x167 : Int) : Option ((Int) ⊕ (Unit ⊕ (Int × Int))) :=
  (if (decide (x167 ≤ 7)) = true then S_spec_DecodeVarint_j3 F p0_s x167 (decide (x167 ≤ (p0_s.length : Int))) else S_spec_DecodeVarint_j3 F p0_s x167 false)

def S_spec_DecodeVarint (F : Nat) (p0_s : List UInt8) : Option (Int × Int) :=
  (loopN (σ := Int) (β := (Unit ⊕ (Int × Int))) (fun s => S_spec_DecodeVarint_l2 F p0_s s) F 1).bind (fun b => (match b with | .inl o => S_spec_DecodeVarint_j1 F | .inr o => some o))

def S_impl_DecodeVarint_j1 (F : Nat) : Option (Int × Int) :=
  some (0, 0)

def S_impl_DecodeVarint_j4 (F : Nat) (x93 : Int) (x94 : Int) (x163 : UInt8) (p175 : Bool) : Option ((Int × Int) ⊕ (Unit ⊕ (Int × Int))) :=
  (if p175 = true then some (Sum.inr (Sum.inr (0, 0))) else some (Sum.inr (Sum.inr ((bOr x93 (shL (IntKind.i64.wrap ((x163.toNat : Int).tmod 128)) (IntKind.i64.wrap (7 * x94)))), (IntKind.i64.wrap (x94 + 1))))))

def S_impl_DecodeVarint_j3 (F : Nat) (p0_s : List UInt8) (x93 : Int) (x94 : Int) (p141 : Bool) : Option ((Int × Int) ⊕ (Unit ⊕ (Int × Int))) :=
  (if p141 = true then ((idxL p0_s x94).bind fun x163 => ((nnO (IntKind.i64.wrap (7 * x94))).bind fun _ => ((idxL p0_s x94).bind fun x166 => (if (decide ((x166.toNat : Int) < 128)) = true then (if (decide ((0 : Int) < x94)) = true then ((idxL p0_s x94).bind fun x178 => S_impl_DecodeVarint_j4 F x93 x94 x163 ((x178.toNat : Int) == 0)) else S_impl_DecodeVarint_j4 F x93 x94 x163 false) else some (Sum.inl ((bOr x93 (shL (IntKind.i64.wrap ((x163.toNat : Int).tmod 128)) (IntKind.i64.wrap (7 * x94)))), (IntKind.i64.wrap (x94 + 1)))))))) else some (Sum.inr (Sum.inl ())))

def S_impl_DecodeVarint_l2 (F : Nat) (p0_s : List UInt8) (x93 : Int) (x94 : Int) : Option ((Int × Int) ⊕ (Unit ⊕ (Int × Int))) :=
  (if (decide (x94 < (p0_s.length : Int))) = true then S_impl_DecodeVarint_j3 F p0_s x93 x94 (decide (x94 < 7)) else S_impl_DecodeVarint_j3 F p0_s x93 x94 false)

def S_impl_DecodeVarint (F : Nat) (p0_s : List UInt8) : Option (Int × Int) :=
  (loopN (σ := (Int × Int)) (β := (Unit ⊕ (Int × Int))) (fun s => S_impl_DecodeVarint_l2 F p0_s s.1 s.2) F (0, 0)).bind (fun b => (match b with | .inl o => S_impl_DecodeVarint_j1 F | .inr o => some o))

def S_laws_FnExactDecodeVarint_j1 (F : Nat) (p18 : Bool) : Option (Bool) :=
  (if p18 = true then some false else some true)

def S_laws_FnExactDecodeVarint (F : Nat) (p0_aS : List UInt8) : Option (Bool) :=
  (if (decide ((1048576 : Int) < (p0_aS.length : Int))) = true then some true else ((S_spec_DecodeVarint F p0_aS).bind fun r9 => ((S_impl_DecodeVarint F p0_aS).bind fun r12 => (if (r12.1 != r9.1) = true then S_laws_FnExactDecodeVarint_j1 F true else S_laws_FnExactDecodeVarint_j1 F (r12.2 != r9.2)))))

def S_spec_SetOf_j1 (F : Nat) (x95 : Int) : Option (Int × Bool) :=
  some (x95, true)

def S_spec_SetOf_j3 (F : Nat) (p0_l : List Int) (x98 : Int) (x99 : Int) (p182 : Bool) : Option ((Int × Int) ⊕ (Int ⊕ (Int × Bool))) :=
  (if p182 = true then some (Sum.inr (Sum.inr (0, false))) else ((idxL p0_l x99).bind fun x184 => ((nnO x184).bind fun _ => some (Sum.inl ((IntKind.i64.wrap (x98 + (shL 1 x184))), (IntKind.i64.wrap (x99 + 1)))))))

def S_spec_SetOf_l2 (F : Nat) (p0_l : List Int) (x98 : Int) (x99 : Int) : Option ((Int × Int) ⊕ (Int ⊕ (Int × Bool))) :=
  (if (decide (x99 < (p0_l.length : Int))) = true then ((idxL p0_l x99).bind fun x185 => ((S_spec_l1In F x185 0 6).bind fun r186 => (if (!r186) = true then S_spec_SetOf_j3 F p0_l x98 x99 true else ((idxL p0_l x99).bind fun x187 => ((nnO x187).bind fun _ => S_spec_SetOf_j3 F p0_l x98 x99 ((bAnd (shR x98 x187) 1) == 1)))))) else some (Sum.inr (Sum.inl x98)))

def S_spec_SetOf (F : Nat) (p0_l : List Int) : Option (Int × Bool) :=
  (loopN (σ := (Int × Int)) (β := (Int ⊕ (Int × Bool))) (fun s => S_spec_SetOf_l2 F p0_l s.1 s.2) F (0, 0)).bind (fun b => (match b with | .inl o => S_spec_SetOf_j1 F o | .inr o => some o))

def S_laws_toIntS_j1 (F : Nat) (l34 : List Int) : Option ((List (Int))) :=
  some l34

def S_laws_toIntS_l2 (F : Nat) (p0_a : List Int) (l46 : List Int) (x47 : Int) : Option (((List Int) × Int) ⊕ (((List Int)))) :=
  (if (decide (x47 < (p0_a.length : Int))) = true then ((idxL p0_a x47).bind fun x62 => ((idxL l46 x47).bind fun x63 => some (Sum.inl ((l46.set (x47.toNat) x62), (IntKind.i64.wrap (x47 + 1)))))) else some (Sum.inr l46))

def S_laws_toIntS (F : Nat) (p0_a : List Int) : Option ((List (Int))) :=
  ((mkO (p0_a.length : Int)).bind fun _ => (loopN (σ := ((List Int) × Int)) (β := (((List Int)))) (fun s => S_laws_toIntS_l2 F p0_a s.1 s.2) F ((List.replicate (p0_a.length : Int).toNat (0 : Int)), 0)).bind (fun b => S_laws_toIntS_j1 F b))

def S_impl_within_j1 (F : Nat) (p3 : Bool) : Option (Bool) :=
  some p3

def S_impl_within (F : Nat) (p0_n : Int) (p1_low : Int) (p2_high : Int) : Option (Bool) :=
  (if (decide (p1_low ≤ p0_n)) = true then S_impl_within_j1 F (decide (p0_n ≤ p2_high)) else S_impl_within_j1 F false)

def S_impl_has (F : Nat) (p0_set : Int) (p1_v : Int) : Option (Bool) :=
  ((nnO p1_v).bind fun _ => some ((bAnd (shR p0_set p1_v) 1) == 1))

def S_impl_SetOf_j1 (F : Nat) (x85 : Int) : Option (Int × Bool) :=
  some (x85, true)

def S_impl_SetOf_j3 (F : Nat) (x88 : Int) (x89 : Int) (x152 : Int) (p164 : Bool) : Option ((Int × Int) ⊕ (Int ⊕ (Int × Bool))) :=
  (if p164 = true then some (Sum.inr (Sum.inr (0, false))) else ((nnO x152).bind fun _ => some (Sum.inl ((bOr x88 (shL 1 x152)), (IntKind.i64.wrap (x89 + 1))))))

def S_impl_SetOf_l2 (F : Nat) (p0_l : List Int) (x88 : Int) (x89 : Int) : Option ((Int × Int) ⊕ (Int ⊕ (Int × Bool))) :=
  (if (decide (x89 < (p0_l.length : Int))) = true then ((idxL p0_l x89).bind fun x152 => ((S_impl_within F x152 0 6).bind fun r166 => (if (!r166) = true then S_impl_SetOf_j3 F x88 x89 x152 true else ((S_impl_has F x88 x152).bind fun r167 => S_impl_SetOf_j3 F x88 x89 x152 r167)))) else some (Sum.inr (Sum.inl x88)))

def S_impl_SetOf (F : Nat) (p0_l : List Int) : Option (Int × Bool) :=
  (loopN (σ := (Int × Int)) (β := (Int ⊕ (Int × Bool))) (fun s => S_impl_SetOf_l2 F p0_l s.1 s.2) F (0, 0)).bind (fun b => (match b with | .inl o => S_impl_SetOf_j1 F o | .inr o => some o))

def S_laws_eqIntS_j1 (F : Nat) : Option (Bool) :=
  some true

def S_laws_eqIntS_l2 (F : Nat) (p0_a : List Int) (p1_b : List Int) (x44 : Int) : Option ((Int) ⊕ (Unit ⊕ Bool)) :=
  (if (decide (x44 < (p0_a.length : Int))) = true then ((idxL p0_a x44).bind fun x74 => ((idxL p1_b x44).bind fun x75 => (if (x74 != x75) = true then some (Sum.inr (Sum.inr false)) else some (Sum.inl (IntKind.i64.wrap (x44 + 1)))))) else some (Sum.inr (Sum.inl ())))

def S_laws_eqIntS (F : Nat) (p0_a : List Int) (p1_b : List Int) : Option (Bool) :=
  (if ((p0_a.length : Int) != (p1_b.length : Int)) = true then some false else (loopN (σ := Int) (β := (Unit ⊕ Bool)) (fun s => S_laws_eqIntS_l2 F p0_a p1_b s) F 0).bind (fun b => (match b with | .inl o => S_laws_eqIntS_j1 F | .inr o => some o)))

def S_laws_FnExactSetOf_j1 (F : Nat) (p0_aL : List Int) (r17 : (List (Int))) (p27 : Bool) : Option (Bool) :=
  (if p27 = true then some false else ((S_laws_toIntS F p0_aL).bind fun r42 => ((S_laws_eqIntS F r17 r42).bind fun r44 => (if (!r44) = true then some false else some true))))

def S_laws_FnExactSetOf (F : Nat) (p0_aL : List Int) : Option (Bool) :=
  (if (decide ((1048576 : Int) < (p0_aL.length : Int))) = true then some true else ((S_laws_toIntS F p0_aL).bind fun r11 => ((S_spec_SetOf F r11).bind fun r13 => ((S_laws_toIntS F p0_aL).bind fun r17 => ((S_impl_SetOf F r17).bind fun r21 => (if (r21.1 != r13.1) = true then S_laws_FnExactSetOf_j1 F p0_aL r17 true else S_laws_FnExactSetOf_j1 F p0_aL r17 (r21.2 != r13.2)))))))

def S_spec_l1Digit (F : Nat) (p0_k : Int) : Option (Int) :=
  ((idxL ([48, 49, 50, 51, 52, 53, 54, 55, 56, 57, 97, 98, 99, 100, 101, 102] : List UInt8) p0_k).bind fun x4 => some (x4.toNat : Int))

def S_spec_l1FromHex_j1 (F : Nat) : Option (Int) :=
  some (-1)

def S_spec_l1FromHex_l2 (F : Nat) (p0_b : Int) (x31 : Int) : Option ((Int) ⊕ (Unit ⊕ Int)) :=
  (if (decide (x31 < 16)) = true then ((S_spec_l1Digit F x31).bind fun r54 => (if (r54 == p0_b) = true then some (Sum.inr (Sum.inr x31)) else some (Sum.inl (IntKind.i64.wrap (x31 + 1))))) else some (Sum.inr (Sum.inl ())))

def S_spec_l1FromHex (F : Nat) (p0_b : Int) : Option (Int) :=
  (loopN (σ := Int) (β := (Unit ⊕ Int)) (fun s => S_spec_l1FromHex_l2 F p0_b s) F 0).bind (fun b => (match b with | .inl o => S_spec_l1FromHex_j1 F | .inr o => some o))

def S_spec_DecodeHex_j1 (F : Nat) (l100 : List Int) : Option ((List UInt8) × Bool) :=
  some ((u8s l100), true)

def S_spec_DecodeHex_j3 (F : Nat) (l104 : List Int) (x105 : Int) (r175 : Int) (r180 : Int) (p186 : Bool) : Option (((List Int) × Int) ⊕ (((List Int)) ⊕ ((List UInt8) × Bool))) :=
  (if p186 = true then some (Sum.inr (Sum.inr (([] : List UInt8), false))) else ((catO l104.length ([(IntKind.u8.wrap (IntKind.i64.wrap ((IntKind.i64.wrap (16 * r175)) + r180)))] : List (Int)).length).bind fun _ => some (Sum.inl ((l104 ++ ([(IntKind.u8.wrap (IntKind.i64.wrap ((IntKind.i64.wrap (16 * r175)) + r180)))] : List (Int))), (IntKind.i64.wrap (x105 + 2))))))

def S_spec_DecodeHex_l2 (F : Nat) (p0_s : List UInt8) (l104 : List Int) (x105 : Int) : Option (((List Int) × Int) ⊕ (((List Int)) ⊕ ((List UInt8) × Bool))) :=
  (if (decide (x105 < (p0_s.length : Int))) = true then ((idxL p0_s x105).bind fun x174 => ((S_spec_l1FromHex F (x174.toNat : Int)).bind fun r175 => ((idxL p0_s (IntKind.i64.wrap (x105 + 1))).bind fun x179 => ((S_spec_l1FromHex F (x179.toNat : Int)).bind fun r180 => (if (decide (r175 < 0)) = true then S_spec_DecodeHex_j3 F l104 x105 r175 r180 true else S_spec_DecodeHex_j3 F l104 x105 r175 r180 (decide (r180 < 0))))))) else some (Sum.inr (Sum.inl l104)))

def S_spec_DecodeHex (F : Nat) (p0_s : List UInt8) : Option ((List UInt8) × Bool) :=
  (if (((p0_s.length : Int).tmod 2) == 1) = true then some (([] : List UInt8), false) else (loopN (σ := ((List Int) × Int)) (β := (((List Int)) ⊕ ((List UInt8) × Bool))) (fun s => S_spec_DecodeHex_l2 F p0_s s.1 s.2) F (([] : List (Int)), 0)).bind (fun b => (match b with | .inl o => S_spec_DecodeHex_j1 F o | .inr o => some o)))

def S_impl_hexValue_j2 (F : Nat) (p0_b : Int) (p13 : Bool) : Option (Int) :=
  (if p13 = true then some (IntKind.i64.wrap ((IntKind.i64.wrap (IntKind.u8.wrap (p0_b - 97))) + 10)) else some (-1))

def S_impl_hexValue_j1 (F : Nat) (p0_b : Int) (p10 : Bool) : Option (Int) :=
  (if p10 = true then some (IntKind.i64.wrap (IntKind.u8.wrap (p0_b - 48))) else (if (decide ((97 : Int) ≤ p0_b)) = true then S_impl_hexValue_j2 F p0_b (decide (p0_b ≤ 102)) else S_impl_hexValue_j2 F p0_b false))

def S_impl_hexValue (F : Nat) (p0_b : Int) : Option (Int) :=
  (if (decide ((48 : Int) ≤ p0_b)) = true then S_impl_hexValue_j1 F p0_b (decide (p0_b ≤ 57)) else S_impl_hexValue_j1 F p0_b false)

def S_impl_DecodeHex_j1 (F : Nat) (l96 : List Int) : Option ((List UInt8) × Bool) :=
  some ((u8s l96), true)

def S_impl_DecodeHex_j3 (F : Nat) (l100 : List Int) (x101 : Int) (r171 : Int) (r172 : Int) (p178 : Bool) : Option (((List Int) × Int) ⊕ (((List Int)) ⊕ ((List UInt8) × Bool))) :=
  (if p178 = true then some (Sum.inr (Sum.inr (([] : List UInt8), false))) else ((catO l100.length ([(IntKind.u8.wrap (IntKind.i64.wrap ((IntKind.i64.wrap (16 * r171)) + r172)))] : List (Int)).length).bind fun _ => some (Sum.inl ((l100 ++ ([(IntKind.u8.wrap (IntKind.i64.wrap ((IntKind.i64.wrap (16 * r171)) + r172)))] : List (Int))), (IntKind.i64.wrap (x101 + 2))))))

def S_impl_DecodeHex_l2 (F : Nat) (p0_s : List UInt8) (l100 : List Int) (x101 : Int) : Option (((List Int) × Int) ⊕ (((List Int)) ⊕ ((List UInt8) × Bool))) :=
  (if (decide (x101 < (p0_s.length : Int))) = true then ((idxL p0_s x101).bind fun x169 => ((idxL p0_s (IntKind.i64.wrap (x101 + 1))).bind fun x170 => ((S_impl_hexValue F (x169.toNat : Int)).bind fun r171 => ((S_impl_hexValue F (x170.toNat : Int)).bind fun r172 => (if (decide (r171 < 0)) = true then S_impl_DecodeHex_j3 F l100 x101 r171 r172 true else S_impl_DecodeHex_j3 F l100 x101 r171 r172 (decide (r172 < 0))))))) else some (Sum.inr (Sum.inl l100)))

def S_impl_DecodeHex (F : Nat) (p0_s : List UInt8) : Option ((List UInt8) × Bool) :=
  (if (((p0_s.length : Int).tmod 2) != 0) = true then some (([] : List UInt8), false) else (loopN (σ := ((List Int) × Int)) (β := (((List Int)) ⊕ ((List UInt8) × Bool))) (fun s => S_impl_DecodeHex_l2 F p0_s s.1 s.2) F (([] : List (Int)), 0)).bind (fun b => (match b with | .inl o => S_impl_DecodeHex_j1 F o | .inr o => some o)))

def S_laws_FnExactDecodeHex_j1 (F : Nat) (p18 : Bool) : Option (Bool) :=
  (if p18 = true then some false else some true)

def S_laws_FnExactDecodeHex (F : Nat) (p0_aS : List UInt8) : Option (Bool) :=
  (if (decide ((1048576 : Int) < (p0_aS.length : Int))) = true then some true else ((S_spec_DecodeHex F p0_aS).bind fun r9 => ((S_impl_DecodeHex F p0_aS).bind fun r12 => (if (r12.1 != r9.1) = true then S_laws_FnExactDecodeHex_j1 F true else S_laws_FnExactDecodeHex_j1 F (r12.2 != r9.2)))))

def S_spec_l3Fine (F : Nat) (p0_set : Int) : Option (Bool) :=
  ((S_spec_l1In F p0_set 0 127).bind fun r4 => some r4)

def S_spec_ListOf_j1 (F : Nat) (l47 : List Int) : Option ((List (Int))) :=
  some l47

def S_spec_ListOf_j4 (F : Nat) (x52 : Int) (l84 : List Int) : Option (((List Int) × Int) ⊕ (((List Int)))) :=
  some (Sum.inl (l84, (IntKind.i64.wrap (x52 + 1))))

def S_spec_ListOf_j3 (F : Nat) (p0_set : Int) (l51 : List Int) (x52 : Int) (p78 : Bool) : Option (((List Int) × Int) ⊕ (((List Int)))) :=
  (if p78 = true then ((nnO x52).bind fun _ => (if ((bAnd (shR p0_set x52) 1) == 1) = true then ((catO l51.length ([x52] : List (Int)).length).bind fun _ => S_spec_ListOf_j4 F x52 (l51 ++ ([x52] : List (Int)))) else S_spec_ListOf_j4 F x52 l51)) else some (Sum.inr l51))

def S_spec_ListOf_l2 (F : Nat) (p0_set : Int) (l51 : List Int) (x52 : Int) : Option (((List Int) × Int) ⊕ (((List Int)))) :=
  (if (decide (x52 < 7)) = true then ((S_spec_l3Fine F p0_set).bind fun r88 => S_spec_ListOf_j3 F p0_set l51 x52 r88) else S_spec_ListOf_j3 F p0_set l51 x52 false)

def S_spec_ListOf (F : Nat) (p0_set : Int) : Option ((List (Int))) :=
  (loopN (σ := ((List Int) × Int)) (β := (((List Int)))) (fun s => S_spec_ListOf_l2 F p0_set s.1 s.2) F (([] : List (Int)), 0)).bind (fun b => S_spec_ListOf_j1 F b)

def S_impl_ListOf_j1 (F : Nat) (l54 : List Int) : Option ((List (Int))) :=
  some l54

def S_impl_ListOf_j3 (F : Nat) (x59 : Int) (l87 : List Int) : Option (((List Int) × Int) ⊕ (((List Int)))) :=
  some (Sum.inl (l87, (IntKind.i64.wrap (x59 + 1))))

def S_impl_ListOf_l2 (F : Nat) (p0_set : Int) (l58 : List Int) (x59 : Int) : Option (((List Int) × Int) ⊕ (((List Int)))) :=
  (if (decide (x59 < 7)) = true then ((S_impl_has F p0_set x59).bind fun r91 => (if r91 = true then ((catO l58.length ([x59] : List (Int)).length).bind fun _ => S_impl_ListOf_j3 F x59 (l58 ++ ([x59] : List (Int)))) else S_impl_ListOf_j3 F x59 l58)) else some (Sum.inr l58))

def S_impl_ListOf (F : Nat) (p0_set : Int) : Option ((List (Int))) :=
  ((S_impl_within F p0_set 0 127).bind fun r12 => (if (!r12) = true then some ([] : List (Int)) else (loopN (σ := ((List Int) × Int)) (β := (((List Int)))) (fun s => S_impl_ListOf_l2 F p0_set s.1 s.2) F (([] : List (Int)), 0)).bind (fun b => S_impl_ListOf_j1 F b)))

def S_laws_markIntS_j1 (F : Nat) (x39 : Int) (l40 : List Int) : Option (Int × (List (Int))) :=
  some (x39, l40)

def S_laws_markIntS_l2 (F : Nat) (l55 : List Int) (x56 : Int) (x57 : Int) : Option (((List Int) × Int × Int) ⊕ ((Int × (List Int)))) :=
  (if (decide (x57 < (l55.length : Int))) = true then ((idxL l55 x57).bind fun x77 => some (Sum.inl ((l55.set (x57.toNat) x56), (IntKind.i64.wrap (x56 + 1)), (IntKind.i64.wrap (x57 + 1))))) else some (Sum.inr (x56, l55)))

def S_laws_markIntS (F : Nat) (p0_a : List Int) (p1_k : Int) : Option (Int × (List (Int))) :=
  (loopN (σ := ((List Int) × Int × Int)) (β := ((Int × (List Int)))) (fun s => S_laws_markIntS_l2 F s.1 s.2.1 s.2.2) F (p0_a, p1_k, 0)).bind (fun b => S_laws_markIntS_j1 F b.1 b.2)

def S_laws_heldIntS_j1 (F : Nat) (x50 : Int) : Option (Int) :=
  some x50

def S_laws_heldIntS_l2 (F : Nat) (p0_a : List Int) (x53 : Int) (x54 : Int) : Option ((Int × Int) ⊕ (Int ⊕ Int)) :=
  (if (decide (x54 < (p0_a.length : Int))) = true then ((idxL p0_a x54).bind fun x97 => (if (x97 != x53) = true then some (Sum.inr (Sum.inr (-1))) else some (Sum.inl ((IntKind.i64.wrap (x53 + 1)), (IntKind.i64.wrap (x54 + 1)))))) else some (Sum.inr (Sum.inl x53)))

def S_laws_heldIntS (F : Nat) (p0_a : List Int) (p1_k : Int) : Option (Int) :=
  (loopN (σ := (Int × Int)) (β := (Int ⊕ Int)) (fun s => S_laws_heldIntS_l2 F p0_a s.1 s.2) F (p1_k, 0)).bind (fun b => (match b with | .inl o => S_laws_heldIntS_j1 F o | .inr o => some o))

def S_laws_FnExactListOf (F : Nat) (p0_aSet : Int) : Option (Bool) :=
  ((S_spec_ListOf F p0_aSet).bind fun r5 => ((S_impl_ListOf F p0_aSet).bind fun r10 => ((S_laws_eqIntS F r10 r5).bind fun r19 => (if (!r19) = true then some false else ((S_laws_markIntS F r10 1).bind fun r24 => ((S_laws_heldIntS F r24.2 1).bind fun r28 => (if (decide (r28 < 0)) = true then some false else (if (r28 != r24.1) = true then some false else ((S_impl_ListOf F p0_aSet).bind fun r42 => ((S_laws_eqIntS F r42 r5).bind fun r51 => (if (!r51) = true then some false else ((S_laws_heldIntS F r24.2 1).bind fun r56 => (if (decide (r56 < 0)) = true then some false else (if (r56 != r24.1) = true then some false else some true))))))))))))))

def S_laws_szIntS (F : Nat) (p0_a : List Int) (p1_left : Int) : Option (Int) :=
  (if (decide ((IntKind.i64.wrap (p1_left - (p0_a.length : Int))) < 0)) = true then some (-1) else some (IntKind.i64.wrap (p1_left - (p0_a.length : Int))))

def S_laws_szGraph (F : Nat) (p0_a_Size : Int) (p0_a_Rows : List Int) (p1_left : Int) : Option (Int) :=
  ((S_laws_szIntS F p0_a_Rows p1_left).bind fun r6 => (if (decide (r6 < 0)) = true then some (-1) else some r6))

def S_spec_EqualGraphs_j2 (F : Nat) : Option (Bool) :=
  some true

def S_spec_EqualGraphs_l3 (F : Nat) (p0_a_Rows : List Int) (p1_b_Rows : List Int) (x50 : Int) : Option ((Int) ⊕ (Unit ⊕ Bool)) :=
  (if (decide (x50 < (p0_a_Rows.length : Int))) = true then ((idxL p0_a_Rows x50).bind fun x80 => ((idxL p1_b_Rows x50).bind fun x81 => (if (x80 != x81) = true then some (Sum.inr (Sum.inr false)) else some (Sum.inl (IntKind.i64.wrap (x50 + 1)))))) else some (Sum.inr (Sum.inl ())))

def S_spec_EqualGraphs_j1 (F : Nat) (p0_a_Rows : List Int) (p1_b_Rows : List Int) (p11 : Bool) : Option (Bool) :=
  (if p11 = true then some false else (loopN (σ := Int) (β := (Unit ⊕ Bool)) (fun s => S_spec_EqualGraphs_l3 F p0_a_Rows p1_b_Rows s) F 0).bind (fun b => (match b with | .inl o => S_spec_EqualGraphs_j2 F | .inr o => some o)))

def S_spec_EqualGraphs (F : Nat) (p0_a_Size : Int) (p0_a_Rows : List Int) (p1_b_Size : Int) (p1_b_Rows : List Int) : Option (Bool) :=
  (if (p0_a_Size != p1_b_Size) = true then S_spec_EqualGraphs_j1 F p0_a_Rows p1_b_Rows true else S_spec_EqualGraphs_j1 F p0_a_Rows p1_b_Rows ((p0_a_Rows.length : Int) != (p1_b_Rows.length : Int)))

def S_laws_toGraph (F : Nat) (p0_a_Size : Int) (p0_a_Rows : List Int) : Option (Int × (List (Int))) :=
  ((S_laws_toIntS F p0_a_Rows).bind fun r13 => some (p0_a_Size, r13))

def S_slices_Equal_int_j1 (F : Nat) : Option (Bool) :=
  some true

def S_slices_Equal_int_l2 (F : Nat) (p0_s1 : List Int) (p1_s2 : List Int) (x46 : Int) : Option ((Int) ⊕ (Unit ⊕ Bool)) :=
  (if (decide (x46 < (p0_s1.length : Int))) = true then ((idxL p0_s1 x46).bind fun x78 => ((idxL p1_s2 x46).bind fun x79 => (if (x78 != x79) = true then some (Sum.inr (Sum.inr false)) else some (Sum.inl (IntKind.i64.wrap (x46 + 1)))))) else some (Sum.inr (Sum.inl ())))

def S_slices_Equal_int (F : Nat) (p0_s1 : List Int) (p1_s2 : List Int) : Option (Bool) :=
  (if ((p0_s1.length : Int) != (p1_s2.length : Int)) = true then some false else (loopN (σ := Int) (β := (Unit ⊕ Bool)) (fun s => S_slices_Equal_int_l2 F p0_s1 p1_s2 s) F 0).bind (fun b => (match b with | .inl o => S_slices_Equal_int_j1 F | .inr o => some o)))

def S_impl_EqualGraphs_j1 (F : Nat) (p8 : Bool) : Option (Bool) :=
  some p8

def S_impl_EqualGraphs (F : Nat) (p0_a_Size : Int) (p0_a_Rows : List Int) (p1_b_Size : Int) (p1_b_Rows : List Int) : Option (Bool) :=
  (if (p0_a_Size == p1_b_Size) = true then ((S_slices_Equal_int F p0_a_Rows p1_b_Rows).bind fun r9 => S_impl_EqualGraphs_j1 F r9) else S_impl_EqualGraphs_j1 F false)

def S_laws_eqGraph (F : Nat) (p0_a_Size : Int) (p0_a_Rows : List Int) (p1_b_Size : Int) (p1_b_Rows : List Int) : Option (Bool) :=
  (if (p0_a_Size != p1_b_Size) = true then some false else ((S_laws_eqIntS F p0_a_Rows p1_b_Rows).bind fun r18 => (if (!r18) = true then some false else some true)))

def S_laws_FnExactEqualGraphs (F : Nat) (p0_aA_Size : Int) (p0_aA_Rows : List Int) (p1_aB_Size : Int) (p1_aB_Rows : List Int) : Option (Bool) :=
  ((S_laws_szGraph F p0_aA_Size p0_aA_Rows 1048576).bind fun r9 => (if (decide (r9 < 0)) = true then some true else ((S_laws_szGraph F p1_aB_Size p1_aB_Rows r9).bind fun r17 => (if (decide (r17 < 0)) = true then some true else ((S_laws_toGraph F p0_aA_Size p0_aA_Rows).bind fun r29 => ((S_laws_toGraph F p1_aB_Size p1_aB_Rows).bind fun r31 => ((S_spec_EqualGraphs F r29.1 r29.2 r31.1 r31.2).bind fun r33 => ((S_laws_toGraph F p0_aA_Size p0_aA_Rows).bind fun r38 => ((S_laws_toGraph F p1_aB_Size p1_aB_Rows).bind fun r45 => ((S_impl_EqualGraphs F r38.1 r38.2 r45.1 r45.2).bind fun r50 => (if (r50 != r33) = true then some false else ((S_laws_toGraph F p0_aA_Size p0_aA_Rows).bind fun r69 => ((S_laws_eqGraph F r38.1 r38.2 r69.1 r69.2).bind fun r71 => (if (!r71) = true then some false else ((S_laws_toGraph F p1_aB_Size p1_aB_Rows).bind fun r86 => ((S_laws_eqGraph F r45.1 r45.2 r86.1 r86.2).bind fun r88 => (if (!r88) = true then some false else some true)))))))))))))))))

def S_spec_IsGraph_j2 (F : Nat) : Option (Bool) :=
  some true

def S_spec_IsGraph_j4 (F : Nat) (x319 : Int) : Option ((Int) ⊕ (Unit ⊕ Bool)) :=
  some (Sum.inl (IntKind.i64.wrap (x319 + 1)))

def S_spec_IsGraph_j7 (F : Nat) (x564 : Int) (p611 : Bool) : Option ((Int) ⊕ (Unit ⊕ Bool)) :=
  (if p611 = true then some (Sum.inr (Sum.inr false)) else some (Sum.inl (IntKind.i64.wrap (x564 + 1))))

def S_spec_IsGraph_l6 (F : Nat) (p0_g_Size : Int) (p0_g_Rows : List Int) (x319 : Int) (x564 : Int) : Option ((Int) ⊕ (Unit ⊕ Bool)) :=
  (if (decide (x564 < p0_g_Size)) = true then ((idxL p0_g_Rows x319).bind fun x613 => ((nnO x564).bind fun _ => (if ((bAnd (shR x613 x564) 1) == 1) = true then ((idxL p0_g_Rows x564).bind fun x614 => (if (decide (x614 < 0)) = true then S_spec_IsGraph_j7 F x564 true else ((idxL p0_g_Rows x564).bind fun x615 => ((nnO p0_g_Size).bind fun _ => (if (decide ((shL 1 p0_g_Size) ≤ x615)) = true then S_spec_IsGraph_j7 F x564 true else ((idxL p0_g_Rows x564).bind fun x616 => ((nnO x319).bind fun _ => S_spec_IsGraph_j7 F x564 ((bAnd (shR x616 x319) 1) == 0)))))))) else S_spec_IsGraph_j7 F x564 false))) else some (Sum.inr (Sum.inl ())))

def S_spec_IsGraph_j5 (F : Nat) (p0_g_Size : Int) (p0_g_Rows : List Int) (x319 : Int) (p561 : Bool) : Option ((Int) ⊕ (Unit ⊕ Bool)) :=
  (if p561 = true then some (Sum.inr (Sum.inr false)) else (loopN (σ := Int) (β := (Unit ⊕ Bool)) (fun s => S_spec_IsGraph_l6 F p0_g_Size p0_g_Rows x319 s) F 0).bind (fun b => (match b with | .inl o => S_spec_IsGraph_j4 F x319 | .inr o => some (Sum.inr (Sum.inr o)))))

def S_spec_IsGraph_l3 (F : Nat) (p0_g_Size : Int) (p0_g_Rows : List Int) (x319 : Int) : Option ((Int) ⊕ (Unit ⊕ Bool)) :=
  (if (decide (x319 < p0_g_Size)) = true then ((idxL p0_g_Rows x319).bind fun x617 => (if (decide (x617 < 0)) = true then S_spec_IsGraph_j5 F p0_g_Size p0_g_Rows x319 true else ((idxL p0_g_Rows x319).bind fun x618 => ((nnO p0_g_Size).bind fun _ => (if (decide ((shL 1 p0_g_Size) ≤ x618)) = true then S_spec_IsGraph_j5 F p0_g_Size p0_g_Rows x319 true else ((idxL p0_g_Rows x319).bind fun x619 => ((nnO x319).bind fun _ => S_spec_IsGraph_j5 F p0_g_Size p0_g_Rows x319 ((bAnd (shR x619 x319) 1) == 1)))))))) else some (Sum.inr (Sum.inl ())))

def S_spec_IsGraph_j1 (F : Nat) (p0_g_Size : Int) (p0_g_Rows : List Int) (p12 : Bool) : Option (Bool) :=
  (if p12 = true then some false else (loopN (σ := Int) (β := (Unit ⊕ Bool)) (fun s => S_spec_IsGraph_l3 F p0_g_Size p0_g_Rows s) F 0).bind (fun b => (match b with | .inl o => S_spec_IsGraph_j2 F | .inr o => some o)))

def S_spec_IsGraph (F : Nat) (p0_g_Size : Int) (p0_g_Rows : List Int) : Option (Bool) :=
  ((S_spec_l1In F p0_g_Size 1 7).bind fun r620 => (if (!r620) = true then S_spec_IsGraph_j1 F p0_g_Size p0_g_Rows true else S_spec_IsGraph_j1 F p0_g_Size p0_g_Rows ((p0_g_Rows.length : Int) != p0_g_Size)))

def S_impl_IsGraph_j3 (F : Nat) : Option (Bool) :=
  some true

def S_impl_IsGraph_j5 (F : Nat) (x262 : Int) : Option ((Int) ⊕ (Unit ⊕ Bool)) :=
  some (Sum.inl (IntKind.i64.wrap (x262 + 1)))

def S_impl_IsGraph_l6 (F : Nat) (p0_g_Rows : List Int) (x262 : Int) (x412 : Int) (x414 : Int) : Option ((Int) ⊕ (Unit ⊕ Bool)) :=
  (if (decide (x414 < x262)) = true then ((idxL p0_g_Rows x414).bind fun x453 => ((S_impl_has F x412 x414).bind fun r454 => ((S_impl_has F x453 x262).bind fun r455 => (if (r454 != r455) = true then some (Sum.inr (Sum.inr false)) else some (Sum.inl (IntKind.i64.wrap (x414 + 1))))))) else some (Sum.inr (Sum.inl ())))

def S_impl_IsGraph_l4 (F : Nat) (p0_g_Rows : List Int) (x262 : Int) : Option ((Int) ⊕ (Unit ⊕ Bool)) :=
  (if (decide (x262 < (p0_g_Rows.length : Int))) = true then ((idxL p0_g_Rows x262).bind fun x412 => (loopN (σ := Int) (β := (Unit ⊕ Bool)) (fun s => S_impl_IsGraph_l6 F p0_g_Rows x262 x412 s) F 0).bind (fun b => (match b with | .inl o => S_impl_IsGraph_j5 F x262 | .inr o => some (Sum.inr (Sum.inr o))))) else some (Sum.inr (Sum.inl ())))

def S_impl_IsGraph_j2 (F : Nat) (p0_g_Rows : List Int) : Option (Bool) :=
  (loopN (σ := Int) (β := (Unit ⊕ Bool)) (fun s => S_impl_IsGraph_l4 F p0_g_Rows s) F 0).bind (fun b => (match b with | .inl o => S_impl_IsGraph_j3 F | .inr o => some o))

def S_impl_IsGraph_j8 (F : Nat) (x458 : Int) (p501 : Bool) : Option ((Int) ⊕ (Unit ⊕ Bool)) :=
  (if p501 = true then some (Sum.inr (Sum.inr false)) else some (Sum.inl (IntKind.i64.wrap (x458 + 1))))

def S_impl_IsGraph_l7 (F : Nat) (p0_g_Size : Int) (p0_g_Rows : List Int) (x458 : Int) : Option ((Int) ⊕ (Unit ⊕ Bool)) :=
  (if (decide (x458 < (p0_g_Rows.length : Int))) = true then ((idxL p0_g_Rows x458).bind fun x497 => ((nnO p0_g_Size).bind fun _ => ((S_impl_within F x497 0 (IntKind.i64.wrap ((shL 1 p0_g_Size) - 1))).bind fun r503 => (if (!r503) = true then S_impl_IsGraph_j8 F x458 true else ((S_impl_has F x497 x458).bind fun r504 => S_impl_IsGraph_j8 F x458 r504))))) else some (Sum.inr (Sum.inl ())))

def S_impl_IsGraph_j1 (F : Nat) (p0_g_Size : Int) (p0_g_Rows : List Int) (p12 : Bool) : Option (Bool) :=
  (if p12 = true then some false else (loopN (σ := Int) (β := (Unit ⊕ Bool)) (fun s => S_impl_IsGraph_l7 F p0_g_Size p0_g_Rows s) F 0).bind (fun b => (match b with | .inl o => S_impl_IsGraph_j2 F p0_g_Rows | .inr o => some o)))

def S_impl_IsGraph (F : Nat) (p0_g_Size : Int) (p0_g_Rows : List Int) : Option (Bool) :=
  ((S_impl_within F p0_g_Size 1 7).bind fun r505 => (if (!r505) = true then S_impl_IsGraph_j1 F p0_g_Size p0_g_Rows true else S_impl_IsGraph_j1 F p0_g_Size p0_g_Rows ((p0_g_Rows.length : Int) != p0_g_Size)))

def S_laws_FnExactIsGraph (F : Nat) (p0_aG_Size : Int) (p0_aG_Rows : List Int) : Option (Bool) :=
  ((S_laws_szGraph F p0_aG_Size p0_aG_Rows 1048576).bind fun r7 => (if (decide (r7 < 0)) = true then some true else ((S_laws_toGraph F p0_aG_Size p0_aG_Rows).bind fun r17 => ((S_spec_IsGraph F r17.1 r17.2).bind fun r19 => ((S_laws_toGraph F p0_aG_Size p0_aG_Rows).bind fun r24 => ((S_impl_IsGraph F r24.1 r24.2).bind fun r29 => (if (r29 != r19) = true then some false else ((S_laws_toGraph F p0_aG_Size p0_aG_Rows).bind fun r48 => ((S_laws_eqGraph F r24.1 r24.2 r48.1 r48.2).bind fun r50 => (if (!r50) = true then some false else some true))))))))))

def S_spec_IsSet_j1 (F : Nat) (p6 : Bool) : Option (Bool) :=
  some p6

def S_spec_IsSet (F : Nat) (p0_g_Size : Int) (p0_g_Rows : List Int) (p1_set : Int) : Option (Bool) :=
  ((S_spec_IsGraph F p0_g_Size p0_g_Rows).bind fun r7 => (if r7 = true then (if (decide ((0 : Int) ≤ p1_set)) = true then ((nnO p0_g_Size).bind fun _ => S_spec_IsSet_j1 F (decide (p1_set < (shL 1 p0_g_Size)))) else S_spec_IsSet_j1 F false) else S_spec_IsSet_j1 F false))

def S_impl_all (F : Nat) (p0_g_Size : Int) (p0_g_Rows : List Int) : Option (Int) :=
  ((nnO p0_g_Size).bind fun _ => some (IntKind.i64.wrap ((shL 1 p0_g_Size) - 1)))

def S_impl_IsSet_j1 (F : Nat) (p8 : Bool) : Option (Bool) :=
  some p8

def S_impl_IsSet (F : Nat) (p0_g_Size : Int) (p0_g_Rows : List Int) (p1_set : Int) : Option (Bool) :=
  ((S_impl_IsGraph F p0_g_Size p0_g_Rows).bind fun r9 => (if r9 = true then ((S_impl_all F p0_g_Size p0_g_Rows).bind fun r10 => ((S_impl_within F p1_set 0 r10).bind fun r11 => S_impl_IsSet_j1 F r11)) else S_impl_IsSet_j1 F false))

def S_laws_FnExactIsSet (F : Nat) (p0_aG_Size : Int) (p0_aG_Rows : List Int) (p1_aSet : Int) : Option (Bool) :=
  ((S_laws_szGraph F p0_aG_Size p0_aG_Rows 1048576).bind fun r7 => (if (decide (r7 < 0)) = true then some true else ((S_laws_toGraph F p0_aG_Size p0_aG_Rows).bind fun r17 => ((S_spec_IsSet F r17.1 r17.2 p1_aSet).bind fun r19 => ((S_laws_toGraph F p0_aG_Size p0_aG_Rows).bind fun r24 => ((S_impl_IsSet F r24.1 r24.2 p1_aSet).bind fun r29 => (if (r29 != r19) = true then some false else ((S_laws_toGraph F p0_aG_Size p0_aG_Rows).bind fun r48 => ((S_laws_eqGraph F r24.1 r24.2 r48.1 r48.2).bind fun r50 => (if (!r50) = true then some false else some true))))))))))

def S_spec_CanonicalCycle_j3 (F : Nat) (l115 : List Int) : Option ((List (Int))) :=
  some l115

def S_spec_CanonicalCycle_j5 (F : Nat) (x120 : Int) (l165 : List Int) : Option (((List Int) × Int) ⊕ (((List Int)))) :=
  some (Sum.inl (l165, (IntKind.i64.wrap (x120 + 1))))

def S_spec_CanonicalCycle_l4 (F : Nat) (p0_l : List Int) (x51 : Int) (l119 : List Int) (x120 : Int) : Option (((List Int) × Int) ⊕ (((List Int)))) :=
  (if (decide (x120 < (p0_l.length : Int))) = true then ((nzO (p0_l.length : Int)).bind fun _ => ((idxL p0_l ((IntKind.i64.wrap (x51 + 1)).tmod (p0_l.length : Int))).bind fun x169 => ((nzO (p0_l.length : Int)).bind fun _ => ((idxL p0_l ((IntKind.i64.wrap ((IntKind.i64.wrap (x51 + (p0_l.length : Int))) - 1)).tmod (p0_l.length : Int))).bind fun x170 => (if (decide (x169 ≤ x170)) = true then ((nzO (p0_l.length : Int)).bind fun _ => ((idxL p0_l ((IntKind.i64.wrap (x51 + x120)).tmod (p0_l.length : Int))).bind fun x171 => ((catO l119.length ([x171] : List (Int)).length).bind fun _ => S_spec_CanonicalCycle_j5 F x120 (l119 ++ ([x171] : List (Int)))))) else ((nzO (p0_l.length : Int)).bind fun _ => ((idxL p0_l ((IntKind.i64.wrap ((IntKind.i64.wrap (x51 + (p0_l.length : Int))) - x120)).tmod (p0_l.length : Int))).bind fun x174 => ((catO l119.length ([x174] : List (Int)).length).bind fun _ => S_spec_CanonicalCycle_j5 F x120 (l119 ++ ([x174] : List (Int))))))))))) else some (Sum.inr l119))

def S_spec_CanonicalCycle_j2 (F : Nat) (p0_l : List Int) (x51 : Int) : Option ((List (Int))) :=
  (loopN (σ := ((List Int) × Int)) (β := (((List Int)))) (fun s => S_spec_CanonicalCycle_l4 F p0_l x51 s.1 s.2) F (([] : List (Int)), 0)).bind (fun b => S_spec_CanonicalCycle_j3 F b)

def S_spec_CanonicalCycle_j7 (F : Nat) (x179 : Int) (x204 : Int) : Option ((Int × Int) ⊕ (Int)) :=
  some (Sum.inl (x204, (IntKind.i64.wrap (x179 + 1))))

def S_spec_CanonicalCycle_l6 (F : Nat) (p0_l : List Int) (x178 : Int) (x179 : Int) : Option ((Int × Int) ⊕ (Int)) :=
  (if (decide (x179 < (p0_l.length : Int))) = true then ((idxL p0_l x179).bind fun x208 => ((idxL p0_l x178).bind fun x209 => (if (decide (x208 < x209)) = true then S_spec_CanonicalCycle_j7 F x179 x179 else S_spec_CanonicalCycle_j7 F x179 x178))) else some (Sum.inr x178))

def S_spec_CanonicalCycle_j1 (F : Nat) (p0_l : List Int) (p12 : Bool) : Option ((List (Int))) :=
  (if p12 = true then ((catO ([] : List (Int)).length p0_l.length).bind fun _ => some (([] : List (Int)) ++ p0_l)) else (loopN (σ := (Int × Int)) (β := Int) (fun s => S_spec_CanonicalCycle_l6 F p0_l s.1 s.2) F (0, 0)).bind (fun b => S_spec_CanonicalCycle_j2 F p0_l b))

def S_spec_CanonicalCycle (F : Nat) (p0_l : List Int) : Option ((List (Int))) :=
  (if (decide ((p0_l.length : Int) < 3)) = true then S_spec_CanonicalCycle_j1 F p0_l true else S_spec_CanonicalCycle_j1 F p0_l (decide ((20 : Int) < (p0_l.length : Int))))

def S_slices_Index_int_j1 (F : Nat) : Option (Int) :=
  some (-1)

def S_slices_Index_int_l2 (F : Nat) (p0_s : List Int) (p1_v : Int) (x33 : Int) : Option ((Int) ⊕ (Unit ⊕ Int)) :=
  (if (decide (x33 < (p0_s.length : Int))) = true then ((idxL p0_s x33).bind fun x58 => (if (p1_v == x58) = true then some (Sum.inr (Sum.inr x33)) else some (Sum.inl (IntKind.i64.wrap (x33 + 1))))) else some (Sum.inr (Sum.inl ())))

def S_slices_Index_int (F : Nat) (p0_s : List Int) (p1_v : Int) : Option (Int) :=
  (loopN (σ := Int) (β := (Unit ⊕ Int)) (fun s => S_slices_Index_int_l2 F p0_s p1_v s) F 0).bind (fun b => (match b with | .inl o => S_slices_Index_int_j1 F | .inr o => some o))

def S_slices_Min_int_j1 (F : Nat) (x24 : Int) : Option (Int) :=
  some x24

def S_slices_Min_int_l2 (F : Nat) (p0_x : List Int) (x27 : Int) (x28 : Int) : Option ((Int × Int) ⊕ (Int)) :=
  (if (decide (x28 < (p0_x.length : Int))) = true then ((idxL p0_x x28).bind fun x40 => some (Sum.inl ((if x40 < x27 then x40 else x27), (IntKind.i64.wrap (x28 + 1))))) else some (Sum.inr x27))

def S_slices_Min_int (F : Nat) (p0_x : List Int) : Option (Int) :=
  (if (decide ((p0_x.length : Int) < 1)) = true then none else ((idxL p0_x 0).bind fun x7 => (loopN (σ := (Int × Int)) (β := Int) (fun s => S_slices_Min_int_l2 F p0_x s.1 s.2) F (x7, 1)).bind (fun b => S_slices_Min_int_j1 F b)))

def S_impl_CanonicalCycle_j2 (F : Nat) (l77 : List Int) : Option ((List (Int))) :=
  some l77

def S_impl_CanonicalCycle_l3 (F : Nat) (p0_l : List Int) (x32 : Int) (x80 : Int) (l82 : List Int) (x83 : Int) : Option ((Int × (List Int) × Int) ⊕ (((List Int)))) :=
  (if (decide (x83 < (p0_l.length : Int))) = true then ((idxL p0_l x80).bind fun x115 => ((catO l82.length ([x115] : List (Int)).length).bind fun _ => ((nzO (p0_l.length : Int)).bind fun _ => some (Sum.inl (((IntKind.i64.wrap (x80 + x32)).tmod (p0_l.length : Int)), (l82 ++ ([x115] : List (Int))), (IntKind.i64.wrap (x83 + 1))))))) else some (Sum.inr l82))

def S_impl_CanonicalCycle_j1 (F : Nat) (p0_l : List Int) (r24 : Int) (x32 : Int) : Option ((List (Int))) :=
  (loopN (σ := (Int × (List Int) × Int)) (β := (((List Int)))) (fun s => S_impl_CanonicalCycle_l3 F p0_l x32 s.1 s.2.1 s.2.2) F (r24, ([] : List (Int)), 0)).bind (fun b => S_impl_CanonicalCycle_j2 F b)

def S_impl_CanonicalCycle (F : Nat) (p0_l : List Int) : Option ((List (Int))) :=
  ((S_impl_within F (p0_l.length : Int) 3 20).bind fun r14 => (if (!r14) = true then ((catO ([] : List (Int)).length p0_l.length).bind fun _ => some (([] : List (Int)) ++ p0_l)) else ((S_slices_Min_int F p0_l).bind fun r23 => ((S_slices_Index_int F p0_l r23).bind fun r24 => ((nzO (p0_l.length : Int)).bind fun _ => ((idxL p0_l ((IntKind.i64.wrap ((IntKind.i64.wrap (r24 + (p0_l.length : Int))) - 1)).tmod (p0_l.length : Int))).bind fun x121 => ((nzO (p0_l.length : Int)).bind fun _ => ((idxL p0_l ((IntKind.i64.wrap (r24 + 1)).tmod (p0_l.length : Int))).bind fun x122 => (if (decide (x121 < x122)) = true then S_impl_CanonicalCycle_j1 F p0_l r24 (IntKind.i64.wrap ((p0_l.length : Int) - 1)) else S_impl_CanonicalCycle_j1 F p0_l r24 1)))))))))

def S_laws_FnExactCanonicalCycle_j1 (F : Nat) (p0_aL : List Int) (r14 : (List (Int))) (r24 : (List (Int))) (p64 : Bool) : Option (Bool) :=
  (if p64 = true then some false else ((S_laws_markIntS F r24 1).bind fun r69 => ((S_laws_heldIntS F r69.2 1).bind fun r73 => (if (decide (r73 < 0)) = true then some false else (if (r73 != r69.1) = true then some false else ((S_laws_toIntS F p0_aL).bind fun r89 => ((S_impl_CanonicalCycle F r89).bind fun r91 => ((S_laws_eqIntS F r91 r14).bind fun r100 => (if (!r100) = true then some false else ((S_laws_heldIntS F r69.2 1).bind fun r105 => (if (decide (r105 < 0)) = true then some false else (if (r105 != r69.1) = true then some false else some true))))))))))))

def S_laws_FnExactCanonicalCycle (F : Nat) (p0_aL : List Int) : Option (Bool) :=
  (if (decide ((1048576 : Int) < (p0_aL.length : Int))) = true then some true else ((S_laws_toIntS F p0_aL).bind fun r12 => ((S_spec_CanonicalCycle F r12).bind fun r14 => ((S_laws_toIntS F p0_aL).bind fun r19 => ((S_impl_CanonicalCycle F r19).bind fun r24 => ((S_laws_eqIntS F r24 r14).bind fun r33 => (if (!r33) = true then some false else ((S_laws_toIntS F p0_aL).bind fun r48 => ((S_laws_eqIntS F r19 r48).bind fun r50 => (if (!r50) = true then some false else ((S_laws_markIntS F r19 1).bind fun r55 => (if (decide (r55.1 < 0)) = true then S_laws_FnExactCanonicalCycle_j1 F p0_aL r14 r24 true else ((S_laws_eqIntS F r24 r14).bind fun r117 => S_laws_FnExactCanonicalCycle_j1 F p0_aL r14 r24 (!r117))))))))))))))

def S_spec_l2Edge (F : Nat) (p0_g_Size : Int) (p0_g_Rows : List Int) (p1_v : Int) (p2_w : Int) : Option (Bool) :=
  ((idxL p0_g_Rows p1_v).bind fun x6 => ((nnO p2_w).bind fun _ => some ((bAnd (shR x6 p2_w) 1) == 1)))

def S_spec_HasEdge_j1 (F : Nat) (p7 : Bool) : Option (Bool) :=
  some p7

def S_spec_HasEdge (F : Nat) (p0_g_Size : Int) (p0_g_Rows : List Int) (p1_v : Int) (p2_w : Int) : Option (Bool) :=
  ((S_spec_IsGraph F p0_g_Size p0_g_Rows).bind fun r8 => (if r8 = true then (if (decide ((0 : Int) ≤ p1_v)) = true then (if (decide ((0 : Int) ≤ p2_w)) = true then (if (decide (p1_v < p0_g_Size)) = true then (if (decide (p2_w < p0_g_Size)) = true then ((S_spec_l2Edge F p0_g_Size p0_g_Rows p1_v p2_w).bind fun r9 => S_spec_HasEdge_j1 F r9) else S_spec_HasEdge_j1 F false) else S_spec_HasEdge_j1 F false) else S_spec_HasEdge_j1 F false) else S_spec_HasEdge_j1 F false) else S_spec_HasEdge_j1 F false))

def S_impl_isVertex_j1 (F : Nat) (p0_g_Size : Int) (p0_g_Rows : List Int) : Option (Bool) :=
  ((S_impl_IsGraph F p0_g_Size p0_g_Rows).bind fun r43 => some r43)

def S_impl_isVertex_l2 (F : Nat) (p0_g_Size : Int) (p1_vertices : List Int) (x45 : Int) : Option ((Int) ⊕ (Unit ⊕ Bool)) :=
  (if (decide (x45 < (p1_vertices.length : Int))) = true then ((idxL p1_vertices x45).bind fun x75 => ((S_impl_within F x75 0 (IntKind.i64.wrap (p0_g_Size - 1))).bind fun r78 => (if (!r78) = true then some (Sum.inr (Sum.inr false)) else some (Sum.inl (IntKind.i64.wrap (x45 + 1)))))) else some (Sum.inr (Sum.inl ())))

def S_impl_isVertex (F : Nat) (p0_g_Size : Int) (p0_g_Rows : List Int) (p1_vertices : List Int) : Option (Bool) :=
  (loopN (σ := Int) (β := (Unit ⊕ Bool)) (fun s => S_impl_isVertex_l2 F p0_g_Size p1_vertices s) F 0).bind (fun b => (match b with | .inl o => S_impl_isVertex_j1 F p0_g_Size p0_g_Rows | .inr o => some o))

def S_impl_HasEdge_j1 (F : Nat) (p9 : Bool) : Option (Bool) :=
  some p9

def S_impl_HasEdge (F : Nat) (p0_g_Size : Int) (p0_g_Rows : List Int) (p1_v : Int) (p2_w : Int) : Option (Bool) :=
  ((S_impl_isVertex F p0_g_Size p0_g_Rows ([p1_v, p2_w] : List (Int))).bind fun r11 => (if r11 = true then ((idxL p0_g_Rows p1_v).bind fun x12 => ((S_impl_has F x12 p2_w).bind fun r13 => S_impl_HasEdge_j1 F r13)) else S_impl_HasEdge_j1 F false))

def S_laws_FnExactHasEdge (F : Nat) (p0_aG_Size : Int) (p0_aG_Rows : List Int) (p1_aV : Int) (p2_aW : Int) : Option (Bool) :=
  ((S_laws_szGraph F p0_aG_Size p0_aG_Rows 1048576).bind fun r7 => (if (decide (r7 < 0)) = true then some true else ((S_laws_toGraph F p0_aG_Size p0_aG_Rows).bind fun r17 => ((S_spec_HasEdge F r17.1 r17.2 p1_aV p2_aW).bind fun r19 => ((S_laws_toGraph F p0_aG_Size p0_aG_Rows).bind fun r24 => ((S_impl_HasEdge F r24.1 r24.2 p1_aV p2_aW).bind fun r29 => (if (r29 != r19) = true then some false else ((S_laws_toGraph F p0_aG_Size p0_aG_Rows).bind fun r48 => ((S_laws_eqGraph F r24.1 r24.2 r48.1 r48.2).bind fun r50 => (if (!r50) = true then some false else some true))))))))))

def S_spec_IsIndependent_j1 (F : Nat) : Option (Bool) :=
  some true

def S_spec_IsIndependent_j3 (F : Nat) (x46 : Int) (p72 : Bool) : Option ((Int) ⊕ (Unit ⊕ Bool)) :=
  (if p72 = true then some (Sum.inr (Sum.inr false)) else some (Sum.inl (IntKind.i64.wrap (x46 + 1))))

def S_spec_IsIndependent_l2 (F : Nat) (p0_g_Size : Int) (p0_g_Rows : List Int) (p1_set : Int) (x46 : Int) : Option ((Int) ⊕ (Unit ⊕ Bool)) :=
  (if (decide (x46 < p0_g_Size)) = true then ((nnO x46).bind fun _ => (if ((bAnd (shR p1_set x46) 1) == 1) = true then ((idxL p0_g_Rows x46).bind fun x74 => S_spec_IsIndependent_j3 F x46 ((bAnd x74 p1_set) != 0)) else S_spec_IsIndependent_j3 F x46 false)) else some (Sum.inr (Sum.inl ())))

def S_spec_IsIndependent (F : Nat) (p0_g_Size : Int) (p0_g_Rows : List Int) (p1_set : Int) : Option (Bool) :=
  ((S_spec_IsSet F p0_g_Size p0_g_Rows p1_set).bind fun r11 => (if (!r11) = true then some false else (loopN (σ := Int) (β := (Unit ⊕ Bool)) (fun s => S_spec_IsIndependent_l2 F p0_g_Size p0_g_Rows p1_set s) F 0).bind (fun b => (match b with | .inl o => S_spec_IsIndependent_j1 F | .inr o => some o))))

def S_impl_neighbors_j1 (F : Nat) (x35 : Int) : Option (Int) :=
  some x35

def S_impl_neighbors_l2 (F : Nat) (p0_g_Rows : List Int) (r40 : (List (Int))) (x42 : Int) (x43 : Int) : Option ((Int × Int) ⊕ (Int)) :=
  (if (decide (x43 < (r40.length : Int))) = true then ((idxL r40 x43).bind fun x64 => ((idxL p0_g_Rows x64).bind fun x65 => some (Sum.inl ((bOr x42 x65), (IntKind.i64.wrap (x43 + 1)))))) else some (Sum.inr x42))

def S_impl_neighbors (F : Nat) (p0_g_Size : Int) (p0_g_Rows : List Int) (p1_set : Int) : Option (Int) :=
  ((S_impl_ListOf F p1_set).bind fun r40 => (loopN (σ := (Int × Int)) (β := Int) (fun s => S_impl_neighbors_l2 F p0_g_Rows r40 s.1 s.2) F (0, 0)).bind (fun b => S_impl_neighbors_j1 F b))

def S_impl_IsIndependent_j1 (F : Nat) (p7 : Bool) : Option (Bool) :=
  some p7

def S_impl_IsIndependent (F : Nat) (p0_g_Size : Int) (p0_g_Rows : List Int) (p1_set : Int) : Option (Bool) :=
  ((S_impl_IsSet F p0_g_Size p0_g_Rows p1_set).bind fun r8 => (if r8 = true then ((S_impl_neighbors F p0_g_Size p0_g_Rows p1_set).bind fun r9 => S_impl_IsIndependent_j1 F ((bAnd r9 p1_set) == 0)) else S_impl_IsIndependent_j1 F false))

def S_laws_FnExactIsIndependent (F : Nat) (p0_aG_Size : Int) (p0_aG_Rows : List Int) (p1_aSet : Int) : Option (Bool) :=
  ((S_laws_szGraph F p0_aG_Size p0_aG_Rows 1048576).bind fun r7 => (if (decide (r7 < 0)) = true then some true else ((S_laws_toGraph F p0_aG_Size p0_aG_Rows).bind fun r17 => ((S_spec_IsIndependent F r17.1 r17.2 p1_aSet).bind fun r19 => ((S_laws_toGraph F p0_aG_Size p0_aG_Rows).bind fun r24 => ((S_impl_IsIndependent F r24.1 r24.2 p1_aSet).bind fun r29 => (if (r29 != r19) = true then some false else ((S_laws_toGraph F p0_aG_Size p0_aG_Rows).bind fun r48 => ((S_laws_eqGraph F r24.1 r24.2 r48.1 r48.2).bind fun r50 => (if (!r50) = true then some false else some true))))))))))

def S_spec_IsClique_j1 (F : Nat) : Option (Bool) :=
  some true

def S_spec_IsClique_j3 (F : Nat) (x46 : Int) (p72 : Bool) : Option ((Int) ⊕ (Unit ⊕ Bool)) :=
  (if p72 = true then some (Sum.inr (Sum.inr false)) else some (Sum.inl (IntKind.i64.wrap (x46 + 1))))

def S_spec_IsClique_l2 (F : Nat) (p0_g_Size : Int) (p0_g_Rows : List Int) (p1_set : Int) (x46 : Int) : Option ((Int) ⊕ (Unit ⊕ Bool)) :=
  (if (decide (x46 < p0_g_Size)) = true then ((nnO x46).bind fun _ => (if ((bAnd (shR p1_set x46) 1) == 1) = true then ((idxL p0_g_Rows x46).bind fun x74 => ((nnO x46).bind fun _ => S_spec_IsClique_j3 F x46 ((bAnd x74 p1_set) != (IntKind.i64.wrap (p1_set - (shL 1 x46)))))) else S_spec_IsClique_j3 F x46 false)) else some (Sum.inr (Sum.inl ())))

def S_spec_IsClique (F : Nat) (p0_g_Size : Int) (p0_g_Rows : List Int) (p1_set : Int) : Option (Bool) :=
  ((S_spec_IsSet F p0_g_Size p0_g_Rows p1_set).bind fun r11 => (if (!r11) = true then some false else (loopN (σ := Int) (β := (Unit ⊕ Bool)) (fun s => S_spec_IsClique_l2 F p0_g_Size p0_g_Rows p1_set s) F 0).bind (fun b => (match b with | .inl o => S_spec_IsClique_j1 F | .inr o => some o))))

def S_impl_isClique_j1 (F : Nat) : Option (Bool) :=
  some true

def S_impl_isClique_l2 (F : Nat) (p0_g_Rows : List Int) (p1_set : Int) (r49 : (List (Int))) (x51 : Int) : Option ((Int) ⊕ (Unit ⊕ Bool)) :=
  (if (decide (x51 < (r49.length : Int))) = true then ((idxL r49 x51).bind fun x81 => ((idxL p0_g_Rows x81).bind fun x84 => ((nnO x81).bind fun _ => (if ((bAndNot p1_set x84) != (shL 1 x81)) = true then some (Sum.inr (Sum.inr false)) else some (Sum.inl (IntKind.i64.wrap (x51 + 1))))))) else some (Sum.inr (Sum.inl ())))

def S_impl_isClique (F : Nat) (p0_g_Size : Int) (p0_g_Rows : List Int) (p1_set : Int) : Option (Bool) :=
  ((S_impl_ListOf F p1_set).bind fun r49 => (loopN (σ := Int) (β := (Unit ⊕ Bool)) (fun s => S_impl_isClique_l2 F p0_g_Rows p1_set r49 s) F 0).bind (fun b => (match b with | .inl o => S_impl_isClique_j1 F | .inr o => some o)))

def S_impl_IsClique_j1 (F : Nat) (p7 : Bool) : Option (Bool) :=
  some p7

def S_impl_IsClique (F : Nat) (p0_g_Size : Int) (p0_g_Rows : List Int) (p1_set : Int) : Option (Bool) :=
  ((S_impl_IsSet F p0_g_Size p0_g_Rows p1_set).bind fun r8 => (if r8 = true then ((S_impl_isClique F p0_g_Size p0_g_Rows p1_set).bind fun r9 => S_impl_IsClique_j1 F r9) else S_impl_IsClique_j1 F false))

def S_laws_FnExactIsClique (F : Nat) (p0_aG_Size : Int) (p0_aG_Rows : List Int) (p1_aSet : Int) : Option (Bool) :=
  ((S_laws_szGraph F p0_aG_Size p0_aG_Rows 1048576).bind fun r7 => (if (decide (r7 < 0)) = true then some true else ((S_laws_toGraph F p0_aG_Size p0_aG_Rows).bind fun r17 => ((S_spec_IsClique F r17.1 r17.2 p1_aSet).bind fun r19 => ((S_laws_toGraph F p0_aG_Size p0_aG_Rows).bind fun r24 => ((S_impl_IsClique F r24.1 r24.2 p1_aSet).bind fun r29 => (if (r29 != r19) = true then some false else ((S_laws_toGraph F p0_aG_Size p0_aG_Rows).bind fun r48 => ((S_laws_eqGraph F r24.1 r24.2 r48.1 r48.2).bind fun r50 => (if (!r50) = true then some false else some true))))))))))

def S_spec_l4Distinct_j1 (F : Nat) (p10 : Bool) : Option (Bool) :=
  some p10

def S_spec_l4Distinct (F : Nat) (p0_g_Size : Int) (p0_g_Rows : List Int) (p1_l : List Int) : Option (Bool) :=
  ((S_spec_SetOf F p1_l).bind fun r6 => ((S_spec_IsGraph F p0_g_Size p0_g_Rows).bind fun r11 => (if r11 = true then (if r6.2 = true then ((S_spec_IsSet F p0_g_Size p0_g_Rows r6.1).bind fun r12 => S_spec_l4Distinct_j1 F r12) else S_spec_l4Distinct_j1 F false) else S_spec_l4Distinct_j1 F false)))

def S_spec_IsOrder_j1 (F : Nat) (p6 : Bool) : Option (Bool) :=
  some p6

def S_spec_IsOrder (F : Nat) (p0_g_Size : Int) (p0_g_Rows : List Int) (p1_l : List Int) : Option (Bool) :=
  ((S_spec_l4Distinct F p0_g_Size p0_g_Rows p1_l).bind fun r7 => (if r7 = true then S_spec_IsOrder_j1 F ((p1_l.length : Int) == p0_g_Size) else S_spec_IsOrder_j1 F false))

def S_slices_Contains_int (F : Nat) (p0_s : List Int) (p1_v : Int) : Option (Bool) :=
  ((S_slices_Index_int F p0_s p1_v).bind fun r4 => some (decide ((0 : Int) ≤ r4)))

def S_impl_areVertices_j1 (F : Nat) (p0_g_Size : Int) (p0_g_Rows : List Int) : Option (Bool) :=
  ((S_impl_IsGraph F p0_g_Size p0_g_Rows).bind fun r63 => some r63)

def S_impl_areVertices_j3 (F : Nat) (x65 : Int) (p115 : Bool) : Option ((Int) ⊕ (Unit ⊕ Bool)) :=
  (if p115 = true then some (Sum.inr (Sum.inr false)) else some (Sum.inl (IntKind.i64.wrap (x65 + 1))))

def S_impl_areVertices_l2 (F : Nat) (p0_g_Size : Int) (p1_l : List Int) (x65 : Int) : Option ((Int) ⊕ (Unit ⊕ Bool)) :=
  (if (decide (x65 < (p1_l.length : Int))) = true then ((idxL p1_l x65).bind fun x110 => ((S_impl_within F x110 0 (IntKind.i64.wrap (p0_g_Size - 1))).bind fun r117 => (if (!r117) = true then S_impl_areVertices_j3 F x65 true else ((slO p1_l.length x65).bind fun _ => ((S_slices_Contains_int F (p1_l.take (x65.toNat)) x110).bind fun r119 => S_impl_areVertices_j3 F x65 r119))))) else some (Sum.inr (Sum.inl ())))

def S_impl_areVertices (F : Nat) (p0_g_Size : Int) (p0_g_Rows : List Int) (p1_l : List Int) : Option (Bool) :=
  (loopN (σ := Int) (β := (Unit ⊕ Bool)) (fun s => S_impl_areVertices_l2 F p0_g_Size p1_l s) F 0).bind (fun b => (match b with | .inl o => S_impl_areVertices_j1 F p0_g_Size p0_g_Rows | .inr o => some o))

def S_impl_IsOrder_j1 (F : Nat) (p6 : Bool) : Option (Bool) :=
  some p6

def S_impl_IsOrder (F : Nat) (p0_g_Size : Int) (p0_g_Rows : List Int) (p1_l : List Int) : Option (Bool) :=
  ((S_impl_areVertices F p0_g_Size p0_g_Rows p1_l).bind fun r7 => (if r7 = true then S_impl_IsOrder_j1 F ((p1_l.length : Int) == p0_g_Size) else S_impl_IsOrder_j1 F false))

def S_laws_FnExactIsOrder (F : Nat) (p0_aG_Size : Int) (p0_aG_Rows : List Int) (p1_aL : List Int) : Option (Bool) :=
  (if (decide ((1048576 : Int) < (p1_aL.length : Int))) = true then some true else ((S_laws_szGraph F p0_aG_Size p0_aG_Rows 1048576).bind fun r12 => (if (decide (r12 < 0)) = true then some true else ((S_laws_toGraph F p0_aG_Size p0_aG_Rows).bind fun r24 => ((S_laws_toIntS F p1_aL).bind fun r26 => ((S_spec_IsOrder F r24.1 r24.2 r26).bind fun r28 => ((S_laws_toGraph F p0_aG_Size p0_aG_Rows).bind fun r33 => ((S_laws_toIntS F p1_aL).bind fun r39 => ((S_impl_IsOrder F r33.1 r33.2 r39).bind fun r43 => (if (r43 != r28) = true then some false else ((S_laws_toGraph F p0_aG_Size p0_aG_Rows).bind fun r62 => ((S_laws_eqGraph F r33.1 r33.2 r62.1 r62.2).bind fun r64 => (if (!r64) = true then some false else ((S_laws_toIntS F p1_aL).bind fun r79 => ((S_laws_eqIntS F r39 r79).bind fun r81 => (if (!r81) = true then some false else some true))))))))))))))))

end Go.Proofs.Ytpafmmdilnbaeaa
