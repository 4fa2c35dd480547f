/- Proved here: nothing but what each Go function of the seat computes, as printed by my translator -/
import Derived.Test.YtgddopammpjkgaaDoorK12
namespace Go.Proofs.YtgddopammpjkgaaDoor
open Go Go.RowKit
set_option linter.unusedVariables false
set_option linter.unusedSimpArgs false
set_option maxRecDepth 100000
set_option maxHeartbeats 4000000

def S_spec_l1New_j1 (F : Nat) (x23 : Int) : Option (Int × Int) :=
  some (0, x23)

def S_spec_l1New_j3 (F : Nat) (p0_code : List Int) (x28 : Int) (x29 : Int) (p42 : Bool) : Option ((Int × Int) ⊕ (Int)) :=
  (if p42 = true then ((idxL p0_code x29).bind fun x45 => some (Sum.inl ((bAnd (IntKind.i64.wrap ((IntKind.i64.wrap ((IntKind.i64.wrap (x28 * 131)) + (IntKind.i64.wrap x45))) + 7)) 1073741823), (IntKind.i64.wrap (x29 + 1))))) else some (Sum.inr x28))

def S_spec_l1New_l2 (F : Nat) (p0_code : List Int) (x28 : Int) (x29 : Int) : Option ((Int × Int) ⊕ (Int)) :=
  (if (decide (x29 < (p0_code.length : Int))) = true then S_spec_l1New_j3 F p0_code x28 x29 (decide (x29 < 4000)) else S_spec_l1New_j3 F p0_code x28 x29 false)

def S_spec_l1New (F : Nat) (p0_code : List Int) : Option (Int × Int) :=
  (loopN (σ := (Int × Int)) (β := Int) (fun s => S_spec_l1New_l2 F p0_code s.1 s.2) F ((IntKind.i64.wrap (10101 + (p0_code.length : Int))), 0)).bind (fun b => S_spec_l1New_j1 F b)

def S_spec_l1Byte_j1 (F : Nat) (p0_c_h : Int) (x9 : Int) (x10 : Int) : Option (Int × Int × Int) :=
  some (x9, x10, (IntKind.i64.wrap ((IntKind.i64.wrap (p0_c_h * 6364136223846793005)) + 1442695040888963407)))

def S_spec_l1Byte (F : Nat) (p0_c_b : List Int) (p0_c_i : Int) (p0_c_h : Int) : Option (Int × Int × Int) :=
  (if (decide (p0_c_i < (p0_c_b.length : Int))) = true then ((idxL p0_c_b p0_c_i).bind fun x15 => S_spec_l1Byte_j1 F p0_c_h (bAnd (IntKind.i64.wrap ((bAnd (bXor (shR (IntKind.i64.wrap ((IntKind.i64.wrap (p0_c_h * 6364136223846793005)) + 1442695040888963407)) 33) (shR (IntKind.i64.wrap ((IntKind.i64.wrap (p0_c_h * 6364136223846793005)) + 1442695040888963407)) 45)) 255) + (IntKind.i64.wrap x15))) 255) (IntKind.i64.wrap (p0_c_i + 1))) else S_spec_l1Byte_j1 F p0_c_h (bAnd (bXor (shR (IntKind.i64.wrap ((IntKind.i64.wrap (p0_c_h * 6364136223846793005)) + 1442695040888963407)) 33) (shR (IntKind.i64.wrap ((IntKind.i64.wrap (p0_c_h * 6364136223846793005)) + 1442695040888963407)) 45)) 255) p0_c_i)

def S_spec_l1Below (F : Nat) (p0_c_b : List Int) (p0_c_i : Int) (p0_c_h : Int) (p1_n : Int) : Option (Int × Int × Int) :=
  (if (decide (p1_n ≤ 0)) = true then some (0, p0_c_i, p0_c_h) else (if (decide (p1_n ≤ 256)) = true then ((S_spec_l1Byte F p0_c_b p0_c_i p0_c_h).bind fun r15 => ((nzO p1_n).bind fun _ => some ((r15.1.tmod p1_n), r15.2.1, r15.2.2))) else ((S_spec_l1Byte F p0_c_b p0_c_i p0_c_h).bind fun r18 => ((S_spec_l1Byte F p0_c_b r18.2.1 r18.2.2).bind fun r21 => ((S_spec_l1Byte F p0_c_b r21.2.1 r21.2.2).bind fun r24 => ((S_spec_l1Byte F p0_c_b r24.2.1 r24.2.2).bind fun r27 => ((nzO p1_n).bind fun _ => some (((IntKind.i64.wrap ((IntKind.i64.wrap ((IntKind.i64.wrap ((IntKind.i64.wrap (r18.1 * 16777216)) + (IntKind.i64.wrap (r21.1 * 65536)))) + (IntKind.i64.wrap (r24.1 * 256)))) + r27.1)).tmod p1_n), r27.2.1, r27.2.2))))))))

def S_spec_l1PickInt (F : Nat) (p0_c_b : List Int) (p0_c_i : Int) (p0_c_h : Int) (p1_list : List Int) : Option (Int × Int × Int) :=
  ((S_spec_l1Below F p0_c_b p0_c_i p0_c_h (p1_list.length : Int)).bind fun r5 => ((idxL p1_list r5.1).bind fun x6 => some (x6, r5.2.1, r5.2.2)))

def S_spec_l1Num (F : Nat) (p0_c_b : List Int) (p0_c_i : Int) (p0_c_h : Int) : Option (Int × Int × Int) :=
  ((S_spec_l1Below F p0_c_b p0_c_i p0_c_h 8).bind fun r24 => (if (r24.1 == 0) = true then ((S_spec_l1PickInt F p0_c_b r24.2.1 r24.2.2 ([(-1), 0, 127, 128, 255, 256, 16383, 16384, 65535, 65536, 562949953421311, 562949953421312, 999999999, 1000000000, (-999999999), 9223372036854775807, (-9223372036854775808)] : List (Int))).bind fun r30 => some (r30.1, r30.2.1, r30.2.2)) else (if (r24.1 == 1) = true then ((S_spec_l1Below F p0_c_b r24.2.1 r24.2.2 1000000000).bind fun r35 => ((S_spec_l1Below F p0_c_b r35.2.1 r35.2.2 1000000000).bind fun r36 => some ((IntKind.i64.wrap (r35.1 * r36.1)), r36.2.1, r36.2.2))) else (if (r24.1 == 2) = true then ((S_spec_l1Below F p0_c_b r24.2.1 r24.2.2 100000).bind fun r40 => some ((IntKind.i64.wrap (0 - r40.1)), r40.2.1, r40.2.2)) else ((S_spec_l1Below F p0_c_b r24.2.1 r24.2.2 70000).bind fun r43 => some (r43.1, r43.2.1, r43.2.2))))))

def S_spec_DrawEncodeVarint (F : Nat) (p0_code : List Int) : Option (Int) :=
  ((S_spec_l1New F p0_code).bind fun r5 => ((S_spec_l1Num F p0_code r5.1 r5.2).bind fun r9 => some r9.1))

def S_spec_l1Text_j1 (F : Nat) (l111 : List Int) (x112 : Int) (x113 : Int) : Option ((List UInt8) × Int × Int) :=
  some ((u8s l111), x112, x113)

def S_spec_l1Text_j4 (F : Nat) (l154 : List Int) (x155 : Int) (r205 : Int × Int × Int) (x211 : Int) : Option ((Int × Int × (List Int) × Int) ⊕ (((List Int) × Int × Int))) :=
  ((catO l154.length ([(IntKind.u8.wrap x211)] : List (Int)).length).bind fun _ => some (Sum.inl (r205.2.1, r205.2.2, (l154 ++ ([(IntKind.u8.wrap x211)] : List (Int))), (IntKind.i64.wrap (x155 - 1)))))

def S_spec_l1Text_j3 (F : Nat) (r7 : Int × Int × Int) (l154 : List Int) (x155 : Int) (r205 : Int × Int × Int) (x208 : Int) : Option ((Int × Int × (List Int) × Int) ⊕ (((List Int) × Int × Int))) :=
  (if (r7.1 == 2) = true then S_spec_l1Text_j4 F l154 x155 r205 (IntKind.i64.wrap (97 + (x208.tmod 4))) else S_spec_l1Text_j4 F l154 x155 r205 x208)

def S_spec_l1Text_l2 (F : Nat) (p0_c_b : List Int) (r7 : Int × Int × Int) (x151 : Int) (x152 : Int) (l154 : List Int) (x155 : Int) : Option ((Int × Int × (List Int) × Int) ⊕ (((List Int) × Int × Int))) :=
  (if (decide ((0 : Int) < x155)) = true then ((S_spec_l1Byte F p0_c_b x151 x152).bind fun r205 => (if (r7.1 == 1) = true then S_spec_l1Text_j3 F r7 l154 x155 r205 (r205.1.tmod 2) else S_spec_l1Text_j3 F r7 l154 x155 r205 r205.1)) else some (Sum.inr (l154, x151, x152)))

def S_spec_l1Text (F : Nat) (p0_c_b : List Int) (p0_c_i : Int) (p0_c_h : Int) (p1_most : Int) : Option ((List UInt8) × Int × Int) :=
  ((S_spec_l1Below F p0_c_b p0_c_i p0_c_h 4).bind fun r7 => ((S_spec_l1Below F p0_c_b r7.2.1 r7.2.2 (IntKind.i64.wrap (p1_most + 1))).bind fun r117 => (loopN (σ := (Int × Int × (List Int) × Int)) (β := (((List Int) × Int × Int))) (fun s => S_spec_l1Text_l2 F p0_c_b r7 s.1 s.2.1 s.2.2.1 s.2.2.2) F (r117.2.1, r117.2.2, ([] : List (Int)), r117.1)).bind (fun b => S_spec_l1Text_j1 F b.1 b.2.1 b.2.2)))

def S_spec_DrawEncodeHex (F : Nat) (p0_code : List Int) : Option ((List UInt8)) :=
  ((S_spec_l1New F p0_code).bind fun r5 => ((S_spec_l1Text F p0_code r5.1 r5.2 40).bind fun r9 => some r9.1))

def S_impl_within_j1 (F : Nat) (p3 : Bool) : Option (Bool) :=
  some p3

def S_impl_within (F : Nat) (p0_n : Int) (p1_low : Int) (p2_high : Int) : Option (Bool) :=
  (if (decide (p1_low ≤ p0_n)) = true then S_impl_within_j1 F (decide (p0_n ≤ p2_high)) else S_impl_within_j1 F false)

def S_impl_EncodeVarint_j1 (F : Nat) (x34 : Int) (l36 : List Int) : Option ((List UInt8)) :=
  ((catO l36.length ([(IntKind.u8.wrap x34)] : List (Int)).length).bind fun _ => some (u8s (l36 ++ ([(IntKind.u8.wrap x34)] : List (Int)))))

def S_impl_EncodeVarint_l2 (F : Nat) (x42 : Int) (l44 : List Int) : Option ((Int × (List Int)) ⊕ ((Int × (List Int)))) :=
  (if (decide ((128 : Int) ≤ x42)) = true then ((catO l44.length ([(IntKind.u8.wrap (IntKind.i64.wrap ((x42.tmod 128) + 128)))] : List (Int)).length).bind fun _ => some (Sum.inl ((IntKind.i64.wrap (x42.tdiv 128)), (l44 ++ ([(IntKind.u8.wrap (IntKind.i64.wrap ((x42.tmod 128) + 128)))] : List (Int)))))) else some (Sum.inr (x42, l44)))

def S_impl_EncodeVarint (F : Nat) (p0_n : Int) : Option ((List UInt8)) :=
  ((S_impl_within F p0_n 0 562949953421311).bind fun r9 => (if (!r9) = true then some ([] : List UInt8) else (loopN (σ := (Int × (List Int))) (β := ((Int × (List Int)))) (fun s => S_impl_EncodeVarint_l2 F s.1 s.2) F (p0_n, ([] : List (Int)))).bind (fun b => S_impl_EncodeVarint_j1 F b.1 b.2)))

def S_impl_DecodeVarint_j1 (F : Nat) : Option (Int × Int) :=
  some (0, 0)

def S_impl_DecodeVarint_j4 (F : Nat) (x93 : Int) (x94 : Int) (x163 : UInt8) (p175 : Bool) : Option ((Int × Int) ⊕ (Unit ⊕ (Int × Int))) :=
  (if p175 = true then some (Sum.inr (Sum.inr (0, 0))) else some (Sum.inr (Sum.inr ((bOr x93 (shL (IntKind.i64.wrap ((x163.toNat : Int).tmod 128)) (IntKind.i64.wrap (7 * x94)))), (IntKind.i64.wrap (x94 + 1))))))

def S_impl_DecodeVarint_j3 (F : Nat) (p0_s : List UInt8) (x93 : Int) (x94 : Int) (p141 : Bool) : Option ((Int × Int) ⊕ (Unit ⊕ (Int × Int))) :=
  (if p141 = true then ((idxL p0_s x94).bind fun x163 => ((nnO (IntKind.i64.wrap (7 * x94))).bind fun _ => ((idxL p0_s x94).bind fun x166 => (if (decide ((x166.toNat : Int) < 128)) = true then (if (decide ((0 : Int) < x94)) = true then ((idxL p0_s x94).bind fun x178 => S_impl_DecodeVarint_j4 F x93 x94 x163 ((x178.toNat : Int) == 0)) else S_impl_DecodeVarint_j4 F x93 x94 x163 false) else some (Sum.inl ((bOr x93 (shL (IntKind.i64.wrap ((x163.toNat : Int).tmod 128)) (IntKind.i64.wrap (7 * x94)))), (IntKind.i64.wrap (x94 + 1)))))))) else some (Sum.inr (Sum.inl ())))

def S_impl_DecodeVarint_l2 (F : Nat) (p0_s : List UInt8) (x93 : Int) (x94 : Int) : Option ((Int × Int) ⊕ (Unit ⊕ (Int × Int))) :=
  (if (decide (x94 < (p0_s.length : Int))) = true then S_impl_DecodeVarint_j3 F p0_s x93 x94 (decide (x94 < 7)) else S_impl_DecodeVarint_j3 F p0_s x93 x94 false)

def S_impl_DecodeVarint (F : Nat) (p0_s : List UInt8) : Option (Int × Int) :=
  (loopN (σ := (Int × Int)) (β := (Unit ⊕ (Int × Int))) (fun s => S_impl_DecodeVarint_l2 F p0_s s.1 s.2) F (0, 0)).bind (fun b => (match b with | .inl o => S_impl_DecodeVarint_j1 F | .inr o => some o))

def S_spec_DrawEncodeFixed (F : Nat) (p0_code : List Int) : Option (Int × Int) :=
  ((S_spec_l1New F p0_code).bind fun r5 => ((S_spec_l1Num F p0_code r5.1 r5.2).bind fun r9 => ((S_spec_l1Below F p0_code r9.2.1 r9.2.2 10).bind fun r12 => some (r9.1, (IntKind.i64.wrap (r12.1 - 1))))))

def S_impl_EncodeFixed_j2 (F : Nat) (l52 : List Int) : Option ((List UInt8)) :=
  some (u8s l52)

def S_impl_EncodeFixed_l3 (F : Nat) (x67 : Int) (l68 : List Int) (x69 : Int) : Option ((Int × (List Int) × Int) ⊕ (((List Int)))) :=
  (if (decide ((0 : Int) ≤ x69)) = true then ((idxL l68 x69).bind fun x89 => some (Sum.inl ((shR x67 8), (l68.set (x69.toNat) (IntKind.u8.wrap x67)), (IntKind.i64.wrap (x69 - 1))))) else some (Sum.inr l68))

def S_impl_EncodeFixed_j1 (F : Nat) (p0_n : Int) (p1_width : Int) (p10 : Bool) : Option ((List UInt8)) :=
  (if p10 = true then some ([] : List UInt8) else ((mkO p1_width).bind fun _ => (loopN (σ := (Int × (List Int) × Int)) (β := (((List Int)))) (fun s => S_impl_EncodeFixed_l3 F s.1 s.2.1 s.2.2) F (p0_n, (List.replicate p1_width.toNat (0 : Int)), (IntKind.i64.wrap (p1_width - 1)))).bind (fun b => S_impl_EncodeFixed_j2 F b)))

def S_impl_EncodeFixed (F : Nat) (p0_n : Int) (p1_width : Int) : Option ((List UInt8)) :=
  ((S_impl_within F p1_width 1 7).bind fun r90 => (if (!r90) = true then S_impl_EncodeFixed_j1 F p0_n p1_width true else (if (decide (p0_n < 0)) = true then S_impl_EncodeFixed_j1 F p0_n p1_width true else ((nnO (IntKind.i64.wrap (8 * p1_width))).bind fun _ => S_impl_EncodeFixed_j1 F p0_n p1_width ((shR p0_n (IntKind.i64.wrap (8 * p1_width))) != 0)))))

def S_impl_DecodeFixed_j2 (F : Nat) (x31 : Int) : Option (Int × Bool) :=
  some (x31, true)

def S_impl_DecodeFixed_l3 (F : Nat) (p0_s : List UInt8) (p1_width : Int) (x34 : Int) (x35 : Int) : Option ((Int × Int) ⊕ (Int)) :=
  (if (decide (x35 < p1_width)) = true then ((idxL p0_s x35).bind fun x49 => some (Sum.inl ((bOr (shL x34 8) (IntKind.i64.wrap (x49.toNat : Int))), (IntKind.i64.wrap (x35 + 1))))) else some (Sum.inr x34))

def S_impl_DecodeFixed_j1 (F : Nat) (p0_s : List UInt8) (p1_width : Int) (p10 : Bool) : Option (Int × Bool) :=
  (if p10 = true then some (0, false) else (loopN (σ := (Int × Int)) (β := Int) (fun s => S_impl_DecodeFixed_l3 F p0_s p1_width s.1 s.2) F (0, 0)).bind (fun b => S_impl_DecodeFixed_j2 F b))

def S_impl_DecodeFixed (F : Nat) (p0_s : List UInt8) (p1_width : Int) : Option (Int × Bool) :=
  ((S_impl_within F p1_width 1 7).bind fun r50 => (if (!r50) = true then S_impl_DecodeFixed_j1 F p0_s p1_width true else S_impl_DecodeFixed_j1 F p0_s p1_width (decide ((p0_s.length : Int) < p1_width))))

def S_spec_l1In_j1 (F : Nat) (p3 : Bool) : Option (Bool) :=
  some p3

def S_spec_l1In (F : Nat) (p0_x : Int) (p1_low : Int) (p2_high : Int) : Option (Bool) :=
  (if (decide (p1_low ≤ p0_x)) = true then S_spec_l1In_j1 F (decide (p0_x ≤ p2_high)) else S_spec_l1In_j1 F false)

def S_spec_EncodeFixed_j2 (F : Nat) (x38 : Int) (s39 : List UInt8) : Option ((List UInt8)) :=
  (if (decide ((0 : Int) < x38)) = true then some ([] : List UInt8) else some s39)

def S_spec_EncodeFixed_l3 (F : Nat) (p1_width : Int) (x47 : Int) (s48 : List UInt8) (x49 : Int) : Option ((Int × (List UInt8) × Int) ⊕ ((Int × (List UInt8)))) :=
  (if (decide (x49 < p1_width)) = true then ((catO (u8s ([(IntKind.u8.wrap (x47.tmod 256))] : List (Int))).length s48.length).bind fun _ => some (Sum.inl ((IntKind.i64.wrap (x47.tdiv 256)), ((u8s ([(IntKind.u8.wrap (x47.tmod 256))] : List (Int))) ++ s48), (IntKind.i64.wrap (x49 + 1))))) else some (Sum.inr (x47, s48)))

def S_spec_EncodeFixed_j1 (F : Nat) (p0_n : Int) (p1_width : Int) (p10 : Bool) : Option ((List UInt8)) :=
  (if p10 = true then some ([] : List UInt8) else (loopN (σ := (Int × (List UInt8) × Int)) (β := ((Int × (List UInt8)))) (fun s => S_spec_EncodeFixed_l3 F p1_width s.1 s.2.1 s.2.2) F (p0_n, ([] : List UInt8), 0)).bind (fun b => S_spec_EncodeFixed_j2 F b.1 b.2))

def S_spec_EncodeFixed (F : Nat) (p0_n : Int) (p1_width : Int) : Option ((List UInt8)) :=
  ((S_spec_l1In F p1_width 1 7).bind fun r70 => (if (!r70) = true then S_spec_EncodeFixed_j1 F p0_n p1_width true else S_spec_EncodeFixed_j1 F p0_n p1_width (decide (p0_n < 0))))

def S_impl_EncodeHex_j1 (F : Nat) (l43 : List Int) : Option ((List UInt8)) :=
  some (u8s l43)

def S_impl_EncodeHex_l2 (F : Nat) (p0_s : List UInt8) (l47 : List Int) (x48 : Int) : Option (((List Int) × Int) ⊕ (((List Int)))) :=
  (if (decide (x48 < (p0_s.length : Int))) = true then ((idxL p0_s x48).bind fun x75 => ((idxL ([48, 49, 50, 51, 52, 53, 54, 55, 56, 57, 97, 98, 99, 100, 101, 102] : List UInt8) (IntKind.u8.wrap ((x75.toNat : Int).tdiv 16))).bind fun x76 => ((idxL p0_s x48).bind fun x77 => ((idxL ([48, 49, 50, 51, 52, 53, 54, 55, 56, 57, 97, 98, 99, 100, 101, 102] : List UInt8) ((x77.toNat : Int).tmod 16)).bind fun x78 => ((catO l47.length ([(x76.toNat : Int), (x78.toNat : Int)] : List (Int)).length).bind fun _ => some (Sum.inl ((l47 ++ ([(x76.toNat : Int), (x78.toNat : Int)] : List (Int))), (IntKind.i64.wrap (x48 + 1))))))))) else some (Sum.inr l47))

def S_impl_EncodeHex (F : Nat) (p0_s : List UInt8) : Option ((List UInt8)) :=
  (loopN (σ := ((List Int) × Int)) (β := (((List Int)))) (fun s => S_impl_EncodeHex_l2 F p0_s s.1 s.2) F (([] : List (Int)), 0)).bind (fun b => S_impl_EncodeHex_j1 F b)

def S_impl_hexValue_j2 (F : Nat) (p0_b : Int) (p13 : Bool) : Option (Int) :=
  (if p13 = true then some (IntKind.i64.wrap ((IntKind.i64.wrap (IntKind.u8.wrap (p0_b - 97))) + 10)) else some (-1))

def S_impl_hexValue_j1 (F : Nat) (p0_b : Int) (p10 : Bool) : Option (Int) :=
  (if p10 = true then some (IntKind.i64.wrap (IntKind.u8.wrap (p0_b - 48))) else (if (decide ((97 : Int) ≤ p0_b)) = true then S_impl_hexValue_j2 F p0_b (decide (p0_b ≤ 102)) else S_impl_hexValue_j2 F p0_b false))

def S_impl_hexValue (F : Nat) (p0_b : Int) : Option (Int) :=
  (if (decide ((48 : Int) ≤ p0_b)) = true then S_impl_hexValue_j1 F p0_b (decide (p0_b ≤ 57)) else S_impl_hexValue_j1 F p0_b false)

def S_impl_DecodeHex_j1 (F : Nat) (l96 : List Int) : Option ((List UInt8) × Bool) :=
  some ((u8s l96), true)

def S_impl_DecodeHex_j3 (F : Nat) (l100 : List Int) (x101 : Int) (r171 : Int) (r172 : Int) (p178 : Bool) : Option (((List Int) × Int) ⊕ (((List Int)) ⊕ ((List UInt8) × Bool))) :=
  (if p178 = true then some (Sum.inr (Sum.inr (([] : List UInt8), false))) else ((catO l100.length ([(IntKind.u8.wrap (IntKind.i64.wrap ((IntKind.i64.wrap (16 * r171)) + r172)))] : List (Int)).length).bind fun _ => some (Sum.inl ((l100 ++ ([(IntKind.u8.wrap (IntKind.i64.wrap ((IntKind.i64.wrap (16 * r171)) + r172)))] : List (Int))), (IntKind.i64.wrap (x101 + 2))))))

def S_impl_DecodeHex_l2 (F : Nat) (p0_s : List UInt8) (l100 : List Int) (x101 : Int) : Option (((List Int) × Int) ⊕ (((List Int)) ⊕ ((List UInt8) × Bool))) :=
  (if (decide (x101 < (p0_s.length : Int))) = true then ((idxL p0_s x101).bind fun x169 => ((idxL p0_s (IntKind.i64.wrap (x101 + 1))).bind fun x170 => ((S_impl_hexValue F (x169.toNat : Int)).bind fun r171 => ((S_impl_hexValue F (x170.toNat : Int)).bind fun r172 => (if (decide (r171 < 0)) = true then S_impl_DecodeHex_j3 F l100 x101 r171 r172 true else S_impl_DecodeHex_j3 F l100 x101 r171 r172 (decide (r172 < 0))))))) else some (Sum.inr (Sum.inl l100)))

def S_impl_DecodeHex (F : Nat) (p0_s : List UInt8) : Option ((List UInt8) × Bool) :=
  (if (((p0_s.length : Int).tmod 2) != 0) = true then some (([] : List UInt8), false) else (loopN (σ := ((List Int) × Int)) (β := (((List Int)) ⊕ ((List UInt8) × Bool))) (fun s => S_impl_DecodeHex_l2 F p0_s s.1 s.2) F (([] : List (Int)), 0)).bind (fun b => (match b with | .inl o => S_impl_DecodeHex_j1 F o | .inr o => some o)))

def S_impl_FormatInt (F : Nat) (p0_n : Int) : Option ((List UInt8)) :=
  ((S_strconv_Itoa F p0_n).bind fun r4 => some r4)

def S_impl_ParseInt_j1 (F : Nat) (r10 : Int × Bool) (p23 : Bool) : Option (Int × Bool) :=
  (if p23 = true then some (0, false) else some (r10.1, true))

def S_impl_ParseInt (F : Nat) (p0_s : List UInt8) : Option (Int × Bool) :=
  (if (decide ((10 : Int) < (p0_s.length : Int))) = true then some (0, false) else ((S_strconv_Atoi F p0_s).bind fun r10 => (if (!r10.2) = true then S_impl_ParseInt_j1 F r10 true else ((S_strconv_Itoa F r10.1).bind fun r26 => (if (r26 != p0_s) = true then S_impl_ParseInt_j1 F r10 true else ((S_impl_within F r10.1 (-999999999) 999999999).bind fun r27 => S_impl_ParseInt_j1 F r10 (!r27)))))))

def S_spec_FormatInt_j1 (F : Nat) (p0_n : Int) (s34 : List UInt8) : Option ((List UInt8)) :=
  (if (decide (p0_n < 0)) = true then ((catO ([45] : List UInt8).length s34.length).bind fun _ => some (([45] : List UInt8) ++ s34)) else some s34)

def S_spec_FormatInt_j3 (F : Nat) (x41 : Int) (s42 : List UInt8) (x60 : Int) : Option ((Int × (List UInt8)) ⊕ (((List UInt8)))) :=
  ((catO (u8s ([(IntKind.u8.wrap (IntKind.i64.wrap (48 + x60)))] : List (Int))).length s42.length).bind fun _ => some (Sum.inl ((IntKind.i64.wrap (x41.tdiv 10)), ((u8s ([(IntKind.u8.wrap (IntKind.i64.wrap (48 + x60)))] : List (Int))) ++ s42))))

def S_spec_FormatInt_l2 (F : Nat) (x41 : Int) (s42 : List UInt8) : Option ((Int × (List UInt8)) ⊕ (((List UInt8)))) :=
  (if (x41 != 0) = true then (if (decide ((x41.tmod 10) < 0)) = true then S_spec_FormatInt_j3 F x41 s42 (IntKind.i64.wrap (0 - (x41.tmod 10))) else S_spec_FormatInt_j3 F x41 s42 (x41.tmod 10)) else some (Sum.inr s42))

def S_spec_FormatInt (F : Nat) (p0_n : Int) : Option ((List UInt8)) :=
  (if (p0_n == 0) = true then some ([48] : List UInt8) else (loopN (σ := (Int × (List UInt8))) (β := (((List UInt8)))) (fun s => S_spec_FormatInt_l2 F s.1 s.2) F (p0_n, ([] : List UInt8))).bind (fun b => S_spec_FormatInt_j1 F p0_n b))

def S_laws_big (F : Nat) (p0_code : List Int) : Option (Bool) :=
  some (decide ((1048576 : Int) < (p0_code.length : Int)))

def S_laws_FnIntegerEncodings_j3 (F : Nat) (p66 : Bool) : Option (Bool) :=
  some p66

def S_laws_FnIntegerEncodings_j2 (F : Nat) (r16 : (List UInt8)) (r32 : Int × Int) (p50 : Bool) : Option (Bool) :=
  (if p50 = true then some false else ((S_impl_EncodeHex F r16).bind fun r54 => ((S_impl_DecodeHex F r54).bind fun r57 => ((S_impl_FormatInt F r32.1).bind fun r60 => ((S_impl_ParseInt F r60).bind fun r63 => (if r57.2 = true then (if (r57.1 == r16) = true then (if ((r54.length : Int) == (IntKind.i64.wrap (2 * (r16.length : Int)))) = true then ((S_spec_FormatInt F r32.1).bind fun r67 => (if (r60 == r67) = true then (if (!r63.2) = true then (if (decide ((-1000000000) < r32.1)) = true then S_laws_FnIntegerEncodings_j3 F (r63.2 == (decide (r32.1 < 1000000000))) else S_laws_FnIntegerEncodings_j3 F (r63.2 == false)) else (if (r63.1 == r32.1) = true then (if (decide ((-1000000000) < r32.1)) = true then S_laws_FnIntegerEncodings_j3 F (r63.2 == (decide (r32.1 < 1000000000))) else S_laws_FnIntegerEncodings_j3 F (r63.2 == false)) else S_laws_FnIntegerEncodings_j3 F false)) else S_laws_FnIntegerEncodings_j3 F false)) else S_laws_FnIntegerEncodings_j3 F false) else S_laws_FnIntegerEncodings_j3 F false) else S_laws_FnIntegerEncodings_j3 F false))))))

def S_laws_FnIntegerEncodings_j1 (F : Nat) (p0_code : List Int) (r16 : (List UInt8)) (p28 : Bool) : Option (Bool) :=
  (if p28 = true then some false else ((S_spec_DrawEncodeFixed F p0_code).bind fun r32 => ((S_impl_EncodeFixed F r32.1 r32.2).bind fun r35 => ((catO r35.length r16.length).bind fun _ => ((S_impl_DecodeFixed F (r35 ++ r16) r32.2).bind fun r38 => (if (r35 != ([] : List UInt8)) = true then (if (!r38.2) = true then S_laws_FnIntegerEncodings_j2 F r16 r32 true else (if (r38.1 != r32.1) = true then S_laws_FnIntegerEncodings_j2 F r16 r32 true else (if ((r35.length : Int) != r32.2) = true then S_laws_FnIntegerEncodings_j2 F r16 r32 true else ((S_spec_EncodeFixed F r32.1 r32.2).bind fun r68 => S_laws_FnIntegerEncodings_j2 F r16 r32 ((r35 != ([] : List UInt8)) != (r68 != ([] : List UInt8))))))) else ((S_spec_EncodeFixed F r32.1 r32.2).bind fun r69 => S_laws_FnIntegerEncodings_j2 F r16 r32 ((r35 != ([] : List UInt8)) != (r69 != ([] : List UInt8))))))))))

def S_laws_FnIntegerEncodings (F : Nat) (p0_code : List Int) : Option (Bool) :=
  ((S_laws_big F p0_code).bind fun r9 => (if r9 = true then some true else ((S_spec_DrawEncodeVarint F p0_code).bind fun r13 => ((S_spec_DrawEncodeHex F p0_code).bind fun r16 => ((S_impl_EncodeVarint F r13).bind fun r19 => ((catO r19.length r16.length).bind fun _ => ((S_impl_DecodeVarint F (r19 ++ r16)).bind fun r22 => (if (decide ((0 : Int) ≤ r13)) = true then (if ((r19 != ([] : List UInt8)) != (decide (r13 ≤ 562949953421311))) = true then S_laws_FnIntegerEncodings_j1 F p0_code r16 true else (if (r19 != ([] : List UInt8)) = true then (if (r22.1 != r13) = true then S_laws_FnIntegerEncodings_j1 F p0_code r16 true else S_laws_FnIntegerEncodings_j1 F p0_code r16 (r22.2 != (r19.length : Int))) else S_laws_FnIntegerEncodings_j1 F p0_code r16 false)) else (if ((r19 != ([] : List UInt8)) != false) = true then S_laws_FnIntegerEncodings_j1 F p0_code r16 true else (if (r19 != ([] : List UInt8)) = true then (if (r22.1 != r13) = true then S_laws_FnIntegerEncodings_j1 F p0_code r16 true else S_laws_FnIntegerEncodings_j1 F p0_code r16 (r22.2 != (r19.length : Int))) else S_laws_FnIntegerEncodings_j1 F p0_code r16 false))))))))))

def S_laws_FnExactFormatInt (F : Nat) (p0_aN : Int) : Option (Bool) :=
  ((S_spec_FormatInt F p0_aN).bind fun r4 => ((S_impl_FormatInt F p0_aN).bind fun r7 => (if (r7 != r4) = true then some false else some true)))

def S_spec_l3Fine (F : Nat) (p0_set : Int) : Option (Bool) :=
  ((S_spec_l1In F p0_set 0 127).bind fun r4 => some r4)

def S_spec_ListOf_j1 (F : Nat) (l47 : List Int) : Option ((List (Int))) :=
  some l47

def S_spec_ListOf_j4 (F : Nat) (x52 : Int) (l84 : List Int) : Option (((List Int) × Int) ⊕ (((List Int)))) :=
  some (Sum.inl (l84, (IntKind.i64.wrap (x52 + 1))))

def S_spec_ListOf_j3 (F : Nat) (p0_set : Int) (l51 : List Int) (x52 : Int) (p78 : Bool) : Option (((List Int) × Int) ⊕ (((List Int)))) :=
  (if p78 = true then ((nnO x52).bind fun _ => (if ((bAnd (shR p0_set x52) 1) == 1) = true then ((catO l51.length ([x52] : List (Int)).length).bind fun _ => S_spec_ListOf_j4 F x52 (l51 ++ ([x52] : List (Int)))) else S_spec_ListOf_j4 F x52 l51)) else some (Sum.inr l51))

def S_spec_ListOf_l2 (F : Nat) (p0_set : Int) (l51 : List Int) (x52 : Int) : Option (((List Int) × Int) ⊕ (((List Int)))) :=
  (if (decide (x52 < 7)) = true then ((S_spec_l3Fine F p0_set).bind fun r88 => S_spec_ListOf_j3 F p0_set l51 x52 r88) else S_spec_ListOf_j3 F p0_set l51 x52 false)

def S_spec_ListOf (F : Nat) (p0_set : Int) : Option ((List (Int))) :=
  (loopN (σ := ((List Int) × Int)) (β := (((List Int)))) (fun s => S_spec_ListOf_l2 F p0_set s.1 s.2) F (([] : List (Int)), 0)).bind (fun b => S_spec_ListOf_j1 F b)

def S_spec_FormatSet_j2 (F : Nat) (s28 : List UInt8) (p37 : Bool) : Option ((List UInt8)) :=
  (if p37 = true then some ([45] : List UInt8) else some s28)

def S_spec_FormatSet_j1 (F : Nat) (p0_set : Int) (s28 : List UInt8) : Option ((List UInt8)) :=
  (if (s28 == ([] : List UInt8)) = true then ((S_spec_l3Fine F p0_set).bind fun r40 => S_spec_FormatSet_j2 F s28 r40) else S_spec_FormatSet_j2 F s28 false)

def S_spec_FormatSet_l3 (F : Nat) (r5 : (List (Int))) (s42 : List UInt8) (x43 : Int) : Option (((List UInt8) × Int) ⊕ (((List UInt8)))) :=
  (if (decide (x43 < (r5.length : Int))) = true then ((idxL r5 x43).bind fun x58 => ((S_spec_FormatInt F x58).bind fun r59 => ((catO s42.length r59.length).bind fun _ => some (Sum.inl ((s42 ++ r59), (IntKind.i64.wrap (x43 + 1))))))) else some (Sum.inr s42))

def S_spec_FormatSet (F : Nat) (p0_set : Int) : Option ((List UInt8)) :=
  ((S_spec_ListOf F p0_set).bind fun r5 => (loopN (σ := ((List UInt8) × Int)) (β := (((List UInt8)))) (fun s => S_spec_FormatSet_l3 F r5 s.1 s.2) F (([] : List UInt8), 0)).bind (fun b => S_spec_FormatSet_j1 F p0_set b))

def S_impl_digits_j1 (F : Nat) (s29 : List UInt8) : Option ((List UInt8)) :=
  some s29

def S_impl_digits_l2 (F : Nat) (p0_l : List Int) (s32 : List UInt8) (x33 : Int) : Option (((List UInt8) × Int) ⊕ (((List UInt8)))) :=
  (if (decide (x33 < (p0_l.length : Int))) = true then ((idxL p0_l x33).bind fun x54 => ((S_impl_FormatInt F x54).bind fun r55 => ((catO s32.length r55.length).bind fun _ => some (Sum.inl ((s32 ++ r55), (IntKind.i64.wrap (x33 + 1))))))) else some (Sum.inr s32))

def S_impl_digits (F : Nat) (p0_l : List Int) : Option ((List UInt8)) :=
  (loopN (σ := ((List UInt8) × Int)) (β := (((List UInt8)))) (fun s => S_impl_digits_l2 F p0_l s.1 s.2) F (([] : List UInt8), 0)).bind (fun b => S_impl_digits_j1 F b)

def S_impl_has (F : Nat) (p0_set : Int) (p1_v : Int) : Option (Bool) :=
  ((nnO p1_v).bind fun _ => some ((bAnd (shR p0_set p1_v) 1) == 1))

def S_impl_ListOf_j1 (F : Nat) (l54 : List Int) : Option ((List (Int))) :=
  some l54

def S_impl_ListOf_j3 (F : Nat) (x59 : Int) (l87 : List Int) : Option (((List Int) × Int) ⊕ (((List Int)))) :=
  some (Sum.inl (l87, (IntKind.i64.wrap (x59 + 1))))

def S_impl_ListOf_l2 (F : Nat) (p0_set : Int) (l58 : List Int) (x59 : Int) : Option (((List Int) × Int) ⊕ (((List Int)))) :=
  (if (decide (x59 < 7)) = true then ((S_impl_has F p0_set x59).bind fun r91 => (if r91 = true then ((catO l58.length ([x59] : List (Int)).length).bind fun _ => S_impl_ListOf_j3 F x59 (l58 ++ ([x59] : List (Int)))) else S_impl_ListOf_j3 F x59 l58)) else some (Sum.inr l58))

def S_impl_ListOf (F : Nat) (p0_set : Int) : Option ((List (Int))) :=
  ((S_impl_within F p0_set 0 127).bind fun r12 => (if (!r12) = true then some ([] : List (Int)) else (loopN (σ := ((List Int) × Int)) (β := (((List Int)))) (fun s => S_impl_ListOf_l2 F p0_set s.1 s.2) F (([] : List (Int)), 0)).bind (fun b => S_impl_ListOf_j1 F b)))

def S_impl_FormatSet (F : Nat) (p0_set : Int) : Option ((List UInt8)) :=
  (if (p0_set == 0) = true then some ([45] : List UInt8) else ((S_impl_ListOf F p0_set).bind fun r11 => ((S_impl_digits F r11).bind fun r13 => some r13)))

def S_laws_FnExactFormatSet (F : Nat) (p0_aSet : Int) : Option (Bool) :=
  ((S_spec_FormatSet F p0_aSet).bind fun r4 => ((S_impl_FormatSet F p0_aSet).bind fun r7 => (if (r7 != r4) = true then some false else some true)))

def S_laws_szIntS (F : Nat) (p0_a : List Int) (p1_left : Int) : Option (Int) :=
  (if (decide ((IntKind.i64.wrap (p1_left - (p0_a.length : Int))) < 0)) = true then some (-1) else some (IntKind.i64.wrap (p1_left - (p0_a.length : Int))))

def S_laws_szGraph (F : Nat) (p0_a_Size : Int) (p0_a_Rows : List Int) (p1_left : Int) : Option (Int) :=
  ((S_laws_szIntS F p0_a_Rows p1_left).bind fun r6 => (if (decide (r6 < 0)) = true then some (-1) else some r6))

def S_spec_IsGraph_j2 (F : Nat) : Option (Bool) :=
  some true

def S_spec_IsGraph_j4 (F : Nat) (x319 : Int) : Option ((Int) ⊕ (Unit ⊕ Bool)) :=
  some (Sum.inl (IntKind.i64.wrap (x319 + 1)))

def S_spec_IsGraph_j7 (F : Nat) (x564 : Int) (p611 : Bool) : Option ((Int) ⊕ (Unit ⊕ Bool)) :=
  (if p611 = true then some (Sum.inr (Sum.inr false)) else some (Sum.inl (IntKind.i64.wrap (x564 + 1))))

def S_spec_IsGraph_l6 (F : Nat) (p0_g_Size : Int) (p0_g_Rows : List Int) (x319 : Int) (x564 : Int) : Option ((Int) ⊕ (Unit ⊕ Bool)) :=
  (if (decide (x564 < p0_g_Size)) = true then ((idxL p0_g_Rows x319).bind fun x613 => ((nnO x564).bind fun _ => (if ((bAnd (shR x613 x564) 1) == 1) = true then ((idxL p0_g_Rows x564).bind fun x614 => (if (decide (x614 < 0)) = true then S_spec_IsGraph_j7 F x564 true else ((idxL p0_g_Rows x564).bind fun x615 => ((nnO p0_g_Size).bind fun _ => (if (decide ((shL 1 p0_g_Size) ≤ x615)) = true then S_spec_IsGraph_j7 F x564 true else ((idxL p0_g_Rows x564).bind fun x616 => ((nnO x319).bind fun _ => S_spec_IsGraph_j7 F x564 ((bAnd (shR x616 x319) 1) == 0)))))))) else S_spec_IsGraph_j7 F x564 false))) else some (Sum.inr (Sum.inl ())))

def S_spec_IsGraph_j5 (F : Nat) (p0_g_Size : Int) (p0_g_Rows : List Int) (x319 : Int) (p561 : Bool) : Option ((Int) ⊕ (Unit ⊕ Bool)) :=
  (if p561 = true then some (Sum.inr (Sum.inr false)) else (loopN (σ := Int) (β := (Unit ⊕ Bool)) (fun s => S_spec_IsGraph_l6 F p0_g_Size p0_g_Rows x319 s) F 0).bind (fun b => (match b with | .inl o => S_spec_IsGraph_j4 F x319 | .inr o => some (Sum.inr (Sum.inr o)))))

def S_spec_IsGraph_l3 (F : Nat) (p0_g_Size : Int) (p0_g_Rows : List Int) (x319 : Int) : Option ((Int) ⊕ (Unit ⊕ Bool)) :=
  (if (decide (x319 < p0_g_Size)) = true then ((idxL p0_g_Rows x319).bind fun x617 => (if (decide (x617 < 0)) = true then S_spec_IsGraph_j5 F p0_g_Size p0_g_Rows x319 true else ((idxL p0_g_Rows x319).bind fun x618 => ((nnO p0_g_Size).bind fun _ => (if (decide ((shL 1 p0_g_Size) ≤ x618)) = true then S_spec_IsGraph_j5 F p0_g_Size p0_g_Rows x319 true else ((idxL p0_g_Rows x319).bind fun x619 => ((nnO x319).bind fun _ => S_spec_IsGraph_j5 F p0_g_Size p0_g_Rows x319 ((bAnd (shR x619 x319) 1) == 1)))))))) else some (Sum.inr (Sum.inl ())))

def S_spec_IsGraph_j1 (F : Nat) (p0_g_Size : Int) (p0_g_Rows : List Int) (p12 : Bool) : Option (Bool) :=
  (if p12 = true then some false else (loopN (σ := Int) (β := (Unit ⊕ Bool)) (fun s => S_spec_IsGraph_l3 F p0_g_Size p0_g_Rows s) F 0).bind (fun b => (match b with | .inl o => S_spec_IsGraph_j2 F | .inr o => some o)))

def S_spec_IsGraph (F : Nat) (p0_g_Size : Int) (p0_g_Rows : List Int) : Option (Bool) :=
  ((S_spec_l1In F p0_g_Size 1 7).bind fun r620 => (if (!r620) = true then S_spec_IsGraph_j1 F p0_g_Size p0_g_Rows true else S_spec_IsGraph_j1 F p0_g_Size p0_g_Rows ((p0_g_Rows.length : Int) != p0_g_Size)))

def S_spec_l2Edge (F : Nat) (p0_g_Size : Int) (p0_g_Rows : List Int) (p1_v : Int) (p2_w : Int) : Option (Bool) :=
  ((idxL p0_g_Rows p1_v).bind fun x6 => ((nnO p2_w).bind fun _ => some ((bAnd (shR x6 p2_w) 1) == 1)))

def S_spec_EdgesOf_j1 (F : Nat) (l213 : List (List Int)) : Option ((List (List Int))) :=
  some l213

def S_spec_EdgesOf_j4 (F : Nat) (x219 : Int) (l373 : List (List Int)) : Option (((List (List Int)) × Int) ⊕ (((List (List Int))))) :=
  some (Sum.inl (l373, (IntKind.i64.wrap (x219 + 1))))

def S_spec_EdgesOf_j6 (F : Nat) (x378 : Int) (l410 : List (List Int)) : Option (((List (List Int)) × Int) ⊕ (((List (List Int))))) :=
  some (Sum.inl (l410, (IntKind.i64.wrap (x378 + 1))))

def S_spec_EdgesOf_l5 (F : Nat) (p0_g_Size : Int) (p0_g_Rows : List Int) (x219 : Int) (l377 : List (List Int)) (x378 : Int) : Option (((List (List Int)) × Int) ⊕ (((List (List Int))))) :=
  (if (decide (x378 < p0_g_Size)) = true then ((S_spec_l2Edge F p0_g_Size p0_g_Rows x219 x378).bind fun r413 => (if r413 = true then ((catO l377.length ([([x219, x378] : List (Int))] : List (List Int)).length).bind fun _ => S_spec_EdgesOf_j6 F x378 (l377 ++ ([([x219, x378] : List (Int))] : List (List Int)))) else S_spec_EdgesOf_j6 F x378 l377)) else some (Sum.inr l377))

def S_spec_EdgesOf_j3 (F : Nat) (p0_g_Size : Int) (p0_g_Rows : List Int) (l218 : List (List Int)) (x219 : Int) (p326 : Bool) : Option (((List (List Int)) × Int) ⊕ (((List (List Int))))) :=
  (if p326 = true then (loopN (σ := ((List (List Int)) × Int)) (β := (((List (List Int))))) (fun s => S_spec_EdgesOf_l5 F p0_g_Size p0_g_Rows x219 s.1 s.2) F (l218, (IntKind.i64.wrap (x219 + 1)))).bind (fun b => S_spec_EdgesOf_j4 F x219 b) else some (Sum.inr l218))

def S_spec_EdgesOf_l2 (F : Nat) (p0_g_Size : Int) (p0_g_Rows : List Int) (l218 : List (List Int)) (x219 : Int) : Option (((List (List Int)) × Int) ⊕ (((List (List Int))))) :=
  (if (decide (x219 < p0_g_Size)) = true then ((S_spec_IsGraph F p0_g_Size p0_g_Rows).bind fun r417 => S_spec_EdgesOf_j3 F p0_g_Size p0_g_Rows l218 x219 r417) else S_spec_EdgesOf_j3 F p0_g_Size p0_g_Rows l218 x219 false)

def S_spec_EdgesOf (F : Nat) (p0_g_Size : Int) (p0_g_Rows : List Int) : Option ((List (List Int))) :=
  (loopN (σ := ((List (List Int)) × Int)) (β := (((List (List Int))))) (fun s => S_spec_EdgesOf_l2 F p0_g_Size p0_g_Rows s.1 s.2) F (([] : List (List Int)), 0)).bind (fun b => S_spec_EdgesOf_j1 F b)

def S_spec_FormatGraph_j1 (F : Nat) (s67 : List UInt8) : Option ((List UInt8)) :=
  some s67

def S_spec_FormatGraph_l2 (F : Nat) (r20 : (List (List Int))) (s70 : List UInt8) (x71 : Int) : Option (((List UInt8) × Int) ⊕ (((List UInt8)))) :=
  (if (decide (x71 < (r20.length : Int))) = true then ((catO s70.length ([32] : List UInt8).length).bind fun _ => ((idxL r20 x71).bind fun x104 => ((idxL x104 0).bind fun x106 => ((idxL r20 x71).bind fun x107 => ((idxL x107 1).bind fun x109 => ((S_spec_FormatInt F x106).bind fun r110 => ((catO (s70 ++ ([32] : List UInt8)).length r110.length).bind fun _ => ((S_spec_FormatInt F x109).bind fun r111 => ((catO ((s70 ++ ([32] : List UInt8)) ++ r110).length r111.length).bind fun _ => some (Sum.inl ((((s70 ++ ([32] : List UInt8)) ++ r110) ++ r111), (IntKind.i64.wrap (x71 + 1))))))))))))) else some (Sum.inr s70))

def S_spec_FormatGraph (F : Nat) (p0_g_Size : Int) (p0_g_Rows : List Int) : Option ((List UInt8)) :=
  ((S_spec_IsGraph F p0_g_Size p0_g_Rows).bind fun r11 => (if (!r11) = true then some ([] : List UInt8) else ((S_spec_FormatInt F p0_g_Size).bind fun r15 => ((catO r15.length ([58] : List UInt8).length).bind fun _ => ((S_spec_EdgesOf F p0_g_Size p0_g_Rows).bind fun r20 => (loopN (σ := ((List UInt8) × Int)) (β := (((List UInt8)))) (fun s => S_spec_FormatGraph_l2 F r20 s.1 s.2) F ((r15 ++ ([58] : List UInt8)), 0)).bind (fun b => S_spec_FormatGraph_j1 F b))))))

def S_laws_toIntS_j1 (F : Nat) (l34 : List Int) : Option ((List (Int))) :=
  some l34

def S_laws_toIntS_l2 (F : Nat) (p0_a : List Int) (l46 : List Int) (x47 : Int) : Option (((List Int) × Int) ⊕ (((List Int)))) :=
  (if (decide (x47 < (p0_a.length : Int))) = true then ((idxL p0_a x47).bind fun x62 => ((idxL l46 x47).bind fun x63 => some (Sum.inl ((l46.set (x47.toNat) x62), (IntKind.i64.wrap (x47 + 1)))))) else some (Sum.inr l46))

def S_laws_toIntS (F : Nat) (p0_a : List Int) : Option ((List (Int))) :=
  ((mkO (p0_a.length : Int)).bind fun _ => (loopN (σ := ((List Int) × Int)) (β := (((List Int)))) (fun s => S_laws_toIntS_l2 F p0_a s.1 s.2) F ((List.replicate (p0_a.length : Int).toNat (0 : Int)), 0)).bind (fun b => S_laws_toIntS_j1 F b))

def S_laws_toGraph (F : Nat) (p0_a_Size : Int) (p0_a_Rows : List Int) : Option (Int × (List (Int))) :=
  ((S_laws_toIntS F p0_a_Rows).bind fun r13 => some (p0_a_Size, r13))

def S_impl_IsGraph_j3 (F : Nat) : Option (Bool) :=
  some true

def S_impl_IsGraph_j5 (F : Nat) (x262 : Int) : Option ((Int) ⊕ (Unit ⊕ Bool)) :=
  some (Sum.inl (IntKind.i64.wrap (x262 + 1)))

def S_impl_IsGraph_l6 (F : Nat) (p0_g_Rows : List Int) (x262 : Int) (x412 : Int) (x414 : Int) : Option ((Int) ⊕ (Unit ⊕ Bool)) :=
  (if (decide (x414 < x262)) = true then ((idxL p0_g_Rows x414).bind fun x453 => ((S_impl_has F x412 x414).bind fun r454 => ((S_impl_has F x453 x262).bind fun r455 => (if (r454 != r455) = true then some (Sum.inr (Sum.inr false)) else some (Sum.inl (IntKind.i64.wrap (x414 + 1))))))) else some (Sum.inr (Sum.inl ())))

def S_impl_IsGraph_l4 (F : Nat) (p0_g_Rows : List Int) (x262 : Int) : Option ((Int) ⊕ (Unit ⊕ Bool)) :=
  (if (decide (x262 < (p0_g_Rows.length : Int))) = true then ((idxL p0_g_Rows x262).bind fun x412 => (loopN (σ := Int) (β := (Unit ⊕ Bool)) (fun s => S_impl_IsGraph_l6 F p0_g_Rows x262 x412 s) F 0).bind (fun b => (match b with | .inl o => S_impl_IsGraph_j5 F x262 | .inr o => some (Sum.inr (Sum.inr o))))) else some (Sum.inr (Sum.inl ())))

def S_impl_IsGraph_j2 (F : Nat) (p0_g_Rows : List Int) : Option (Bool) :=
  (loopN (σ := Int) (β := (Unit ⊕ Bool)) (fun s => S_impl_IsGraph_l4 F p0_g_Rows s) F 0).bind (fun b => (match b with | .inl o => S_impl_IsGraph_j3 F | .inr o => some o))

def S_impl_IsGraph_j8 (F : Nat) (x458 : Int) (p501 : Bool) : Option ((Int) ⊕ (Unit ⊕ Bool)) :=
  (if p501 = true then some (Sum.inr (Sum.inr false)) else some (Sum.inl (IntKind.i64.wrap (x458 + 1))))

def S_impl_IsGraph_l7 (F : Nat) (p0_g_Size : Int) (p0_g_Rows : List Int) (x458 : Int) : Option ((Int) ⊕ (Unit ⊕ Bool)) :=
  (if (decide (x458 < (p0_g_Rows.length : Int))) = true then ((idxL p0_g_Rows x458).bind fun x497 => ((nnO p0_g_Size).bind fun _ => ((S_impl_within F x497 0 (IntKind.i64.wrap ((shL 1 p0_g_Size) - 1))).bind fun r503 => (if (!r503) = true then S_impl_IsGraph_j8 F x458 true else ((S_impl_has F x497 x458).bind fun r504 => S_impl_IsGraph_j8 F x458 r504))))) else some (Sum.inr (Sum.inl ())))

def S_impl_IsGraph_j1 (F : Nat) (p0_g_Size : Int) (p0_g_Rows : List Int) (p12 : Bool) : Option (Bool) :=
  (if p12 = true then some false else (loopN (σ := Int) (β := (Unit ⊕ Bool)) (fun s => S_impl_IsGraph_l7 F p0_g_Size p0_g_Rows s) F 0).bind (fun b => (match b with | .inl o => S_impl_IsGraph_j2 F p0_g_Rows | .inr o => some o)))

def S_impl_IsGraph (F : Nat) (p0_g_Size : Int) (p0_g_Rows : List Int) : Option (Bool) :=
  ((S_impl_within F p0_g_Size 1 7).bind fun r505 => (if (!r505) = true then S_impl_IsGraph_j1 F p0_g_Size p0_g_Rows true else S_impl_IsGraph_j1 F p0_g_Size p0_g_Rows ((p0_g_Rows.length : Int) != p0_g_Size)))

def S_impl_EdgesOf_j1 (F : Nat) (l220 : List (List Int)) : Option ((List (List Int))) :=
  some l220

def S_impl_EdgesOf_j3 (F : Nat) (x226 : Int) (l376 : List (List Int)) : Option (((List (List Int)) × Int) ⊕ (((List (List Int))))) :=
  some (Sum.inl (l376, (IntKind.i64.wrap (x226 + 1))))

def S_impl_EdgesOf_j5 (F : Nat) (x384 : Int) (l416 : List (List Int)) : Option (((List (List Int)) × Int) ⊕ (((List (List Int))))) :=
  some (Sum.inl (l416, (IntKind.i64.wrap (x384 + 1))))

def S_impl_EdgesOf_l4 (F : Nat) (p0_g_Size : Int) (x226 : Int) (x379 : Int) (l383 : List (List Int)) (x384 : Int) : Option (((List (List Int)) × Int) ⊕ (((List (List Int))))) :=
  (if (decide (x384 < p0_g_Size)) = true then ((S_impl_has F x379 x384).bind fun r419 => (if r419 = true then ((catO l383.length ([([x226, x384] : List (Int))] : List (List Int)).length).bind fun _ => S_impl_EdgesOf_j5 F x384 (l383 ++ ([([x226, x384] : List (Int))] : List (List Int)))) else S_impl_EdgesOf_j5 F x384 l383)) else some (Sum.inr l383))

def S_impl_EdgesOf_l2 (F : Nat) (p0_g_Size : Int) (p0_g_Rows : List Int) (l225 : List (List Int)) (x226 : Int) : Option (((List (List Int)) × Int) ⊕ (((List (List Int))))) :=
  (if (decide (x226 < (p0_g_Rows.length : Int))) = true then ((idxL p0_g_Rows x226).bind fun x379 => (loopN (σ := ((List (List Int)) × Int)) (β := (((List (List Int))))) (fun s => S_impl_EdgesOf_l4 F p0_g_Size x226 x379 s.1 s.2) F (l225, (IntKind.i64.wrap (x226 + 1)))).bind (fun b => S_impl_EdgesOf_j3 F x226 b)) else some (Sum.inr l225))

def S_impl_EdgesOf (F : Nat) (p0_g_Size : Int) (p0_g_Rows : List Int) : Option ((List (List Int))) :=
  ((S_impl_IsGraph F p0_g_Size p0_g_Rows).bind fun r14 => (if (!r14) = true then some ([] : List (List Int)) else (loopN (σ := ((List (List Int)) × Int)) (β := (((List (List Int))))) (fun s => S_impl_EdgesOf_l2 F p0_g_Size p0_g_Rows s.1 s.2) F (([] : List (List Int)), 0)).bind (fun b => S_impl_EdgesOf_j1 F b)))

def S_impl_FormatGraph_j1 (F : Nat) (s68 : List UInt8) : Option ((List UInt8)) :=
  some s68

def S_impl_FormatGraph_l2 (F : Nat) (r74 : (List (List Int))) (s77 : List UInt8) (x78 : Int) : Option (((List UInt8) × Int) ⊕ (((List UInt8)))) :=
  (if (decide (x78 < (r74.length : Int))) = true then ((idxL r74 x78).bind fun x115 => ((idxL x115 0).bind fun x117 => ((idxL x115 1).bind fun x118 => ((S_impl_FormatInt F x117).bind fun r119 => ((catO ([32] : List UInt8).length r119.length).bind fun _ => ((S_impl_FormatInt F x118).bind fun r120 => ((catO (([32] : List UInt8) ++ r119).length r120.length).bind fun _ => ((catO s77.length ((([32] : List UInt8) ++ r119) ++ r120).length).bind fun _ => some (Sum.inl ((s77 ++ ((([32] : List UInt8) ++ r119) ++ r120)), (IntKind.i64.wrap (x78 + 1)))))))))))) else some (Sum.inr s77))

def S_impl_FormatGraph (F : Nat) (p0_g_Size : Int) (p0_g_Rows : List Int) : Option ((List UInt8)) :=
  ((S_impl_IsGraph F p0_g_Size p0_g_Rows).bind fun r11 => (if (!r11) = true then some ([] : List UInt8) else ((S_impl_FormatInt F p0_g_Size).bind fun r15 => ((catO r15.length ([58] : List UInt8).length).bind fun _ => ((S_impl_EdgesOf F p0_g_Size p0_g_Rows).bind fun r74 => (loopN (σ := ((List UInt8) × Int)) (β := (((List UInt8)))) (fun s => S_impl_FormatGraph_l2 F r74 s.1 s.2) F ((r15 ++ ([58] : List UInt8)), 0)).bind (fun b => S_impl_FormatGraph_j1 F b))))))

def S_laws_eqIntS_j1 (F : Nat) : Option (Bool) :=
  some true

def S_laws_eqIntS_l2 (F : Nat) (p0_a : List Int) (p1_b : List Int) (x44 : Int) : Option ((Int) ⊕ (Unit ⊕ Bool)) :=
  (if (decide (x44 < (p0_a.length : Int))) = true then ((idxL p0_a x44).bind fun x74 => ((idxL p1_b x44).bind fun x75 => (if (x74 != x75) = true then some (Sum.inr (Sum.inr false)) else some (Sum.inl (IntKind.i64.wrap (x44 + 1)))))) else some (Sum.inr (Sum.inl ())))

def S_laws_eqIntS (F : Nat) (p0_a : List Int) (p1_b : List Int) : Option (Bool) :=
  (if ((p0_a.length : Int) != (p1_b.length : Int)) = true then some false else (loopN (σ := Int) (β := (Unit ⊕ Bool)) (fun s => S_laws_eqIntS_l2 F p0_a p1_b s) F 0).bind (fun b => (match b with | .inl o => S_laws_eqIntS_j1 F | .inr o => some o)))

def S_laws_eqGraph (F : Nat) (p0_a_Size : Int) (p0_a_Rows : List Int) (p1_b_Size : Int) (p1_b_Rows : List Int) : Option (Bool) :=
  (if (p0_a_Size != p1_b_Size) = true then some false else ((S_laws_eqIntS F p0_a_Rows p1_b_Rows).bind fun r18 => (if (!r18) = true then some false else some true)))

def S_laws_FnExactFormatGraph (F : Nat) (p0_aG_Size : Int) (p0_aG_Rows : List Int) : Option (Bool) :=
  ((S_laws_szGraph F p0_aG_Size p0_aG_Rows 1048576).bind fun r7 => (if (decide (r7 < 0)) = true then some true else ((S_laws_toGraph F p0_aG_Size p0_aG_Rows).bind fun r17 => ((S_spec_FormatGraph F r17.1 r17.2).bind fun r19 => ((S_laws_toGraph F p0_aG_Size p0_aG_Rows).bind fun r24 => ((S_impl_FormatGraph F r24.1 r24.2).bind fun r29 => (if (r29 != r19) = true then some false else ((S_laws_toGraph F p0_aG_Size p0_aG_Rows).bind fun r48 => ((S_laws_eqGraph F r24.1 r24.2 r48.1 r48.2).bind fun r50 => (if (!r50) = true then some false else some true))))))))))

def S_spec_ParseInt_j3 (F : Nat) (x68 : Int) (p77 : Bool) : Option (Int × Bool) :=
  (if p77 = true then some (0, false) else some (x68, true))

def S_spec_ParseInt_j2 (F : Nat) (p0_s : List UInt8) (x62 : Int) (x68 : Int) : Option (Int × Bool) :=
  (if (decide ((9 : Int) < x62)) = true then S_spec_ParseInt_j3 F x68 true else (if (decide ((10 : Int) < (p0_s.length : Int))) = true then S_spec_ParseInt_j3 F x68 true else ((S_spec_FormatInt F x68).bind fun r80 => S_spec_ParseInt_j3 F x68 (r80 != p0_s))))

def S_spec_ParseInt_j4 (F : Nat) (p0_s : List UInt8) (x61 : Int) (x62 : Int) (p83 : Bool) : Option (Int × Bool) :=
  (if p83 = true then S_spec_ParseInt_j2 F p0_s x62 (IntKind.i64.wrap (0 - x61)) else S_spec_ParseInt_j2 F p0_s x62 x61)

def S_spec_ParseInt_j1 (F : Nat) (p0_s : List UInt8) (x61 : Int) (x62 : Int) : Option (Int × Bool) :=
  (if (decide ((0 : Int) < (p0_s.length : Int))) = true then ((idxL p0_s 0).bind fun x84 => S_spec_ParseInt_j4 F p0_s x61 x62 ((x84.toNat : Int) == 45)) else S_spec_ParseInt_j4 F p0_s x61 x62 false)

def S_spec_ParseInt_j7 (F : Nat) (x88 : Int) (x130 : Int) (x131 : Int) : Option ((Int × Int × Int) ⊕ ((Int × Int))) :=
  some (Sum.inl (x130, x131, (IntKind.i64.wrap (x88 + 1))))

def S_spec_ParseInt_j8 (F : Nat) (p0_s : List UInt8) (x86 : Int) (x87 : Int) (x88 : Int) (p135 : Bool) : Option ((Int × Int × Int) ⊕ ((Int × Int))) :=
  (if p135 = true then ((idxL p0_s x88).bind fun x138 => S_spec_ParseInt_j7 F x88 (IntKind.i64.wrap ((IntKind.i64.wrap (x86 * 10)) + (IntKind.i64.wrap (IntKind.u8.wrap ((x138.toNat : Int) - 48))))) (IntKind.i64.wrap (x87 + 1))) else S_spec_ParseInt_j7 F x88 x86 x87)

def S_spec_ParseInt_j6 (F : Nat) (p0_s : List UInt8) (x86 : Int) (x87 : Int) (x88 : Int) (p119 : Bool) : Option ((Int × Int × Int) ⊕ ((Int × Int))) :=
  (if p119 = true then ((idxL p0_s x88).bind fun x139 => (if (decide ((48 : Int) ≤ (x139.toNat : Int))) = true then ((idxL p0_s x88).bind fun x140 => S_spec_ParseInt_j8 F p0_s x86 x87 x88 (decide ((x140.toNat : Int) ≤ 57))) else S_spec_ParseInt_j8 F p0_s x86 x87 x88 false)) else some (Sum.inr (x86, x87)))

def S_spec_ParseInt_l5 (F : Nat) (p0_s : List UInt8) (x86 : Int) (x87 : Int) (x88 : Int) : Option ((Int × Int × Int) ⊕ ((Int × Int))) :=
  (if (decide (x88 < (p0_s.length : Int))) = true then S_spec_ParseInt_j6 F p0_s x86 x87 x88 (decide (x88 < 11)) else S_spec_ParseInt_j6 F p0_s x86 x87 x88 false)

def S_spec_ParseInt (F : Nat) (p0_s : List UInt8) : Option (Int × Bool) :=
  (loopN (σ := (Int × Int × Int)) (β := ((Int × Int))) (fun s => S_spec_ParseInt_l5 F p0_s s.1 s.2.1 s.2.2) F (0, 0, 0)).bind (fun b => S_spec_ParseInt_j1 F p0_s b.1 b.2)

def S_laws_FnExactParseInt_j1 (F : Nat) (p18 : Bool) : Option (Bool) :=
  (if p18 = true then some false else some true)

def S_laws_FnExactParseInt (F : Nat) (p0_aS : List UInt8) : Option (Bool) :=
  (if (decide ((1048576 : Int) < (p0_aS.length : Int))) = true then some true else ((S_spec_ParseInt F p0_aS).bind fun r9 => ((S_impl_ParseInt F p0_aS).bind fun r12 => (if (r12.1 != r9.1) = true then S_laws_FnExactParseInt_j1 F true else S_laws_FnExactParseInt_j1 F (r12.2 != r9.2)))))

def S_spec_l2Cut_j1 (F : Nat) (l59 : List (List UInt8)) (s60 : List UInt8) : Option ((List (List UInt8))) :=
  ((catO l59.length ([s60] : List (List UInt8)).length).bind fun _ => some (l59 ++ ([s60] : List (List UInt8))))

def S_spec_l2Cut_j3 (F : Nat) (x70 : Int) (l107 : List (List UInt8)) (s108 : List UInt8) : Option (((List (List UInt8)) × (List UInt8) × Int) ⊕ (((List (List UInt8)) × (List UInt8)))) :=
  some (Sum.inl (l107, s108, (IntKind.i64.wrap (x70 + 1))))

def S_spec_l2Cut_l2 (F : Nat) (p0_s : List UInt8) (p1_by : Int) (l68 : List (List UInt8)) (s69 : List UInt8) (x70 : Int) : Option (((List (List UInt8)) × (List UInt8) × Int) ⊕ (((List (List UInt8)) × (List UInt8)))) :=
  (if (decide (x70 < (p0_s.length : Int))) = true then ((idxL p0_s x70).bind fun x111 => (if ((x111.toNat : Int) == p1_by) = true then ((catO l68.length ([s69] : List (List UInt8)).length).bind fun _ => S_spec_l2Cut_j3 F x70 (l68 ++ ([s69] : List (List UInt8))) ([] : List UInt8)) else ((sl2O p0_s.length x70 (IntKind.i64.wrap (x70 + 1))).bind fun _ => ((catO s69.length ((p0_s.drop x70.toNat).take ((IntKind.i64.wrap (x70 + 1)).toNat - x70.toNat)).length).bind fun _ => S_spec_l2Cut_j3 F x70 l68 (s69 ++ ((p0_s.drop x70.toNat).take ((IntKind.i64.wrap (x70 + 1)).toNat - x70.toNat))))))) else some (Sum.inr (l68, s69)))

def S_spec_l2Cut (F : Nat) (p0_s : List UInt8) (p1_by : Int) : Option ((List (List UInt8))) :=
  (loopN (σ := ((List (List UInt8)) × (List UInt8) × Int)) (β := (((List (List UInt8)) × (List UInt8)))) (fun s => S_spec_l2Cut_l2 F p0_s p1_by s.1 s.2.1 s.2.2) F (([] : List (List UInt8)), ([] : List UInt8), 0)).bind (fun b => S_spec_l2Cut_j1 F b.1 b.2)

def S_spec_l2Copy (F : Nat) (p0_g_Size : Int) (p0_g_Rows : List Int) : Option (Int × (List (Int))) :=
  ((catO ([] : List (Int)).length p0_g_Rows.length).bind fun _ => some (p0_g_Size, (([] : List (Int)) ++ p0_g_Rows)))

def S_spec_l2Pair_j1 (F : Nat) (p6 : Bool) : Option (Bool) :=
  some p6

def S_spec_l2Pair (F : Nat) (p0_g_Size : Int) (p0_g_Rows : List Int) (p1_v : Int) (p2_w : Int) : Option (Bool) :=
  ((S_spec_IsGraph F p0_g_Size p0_g_Rows).bind fun r7 => (if r7 = true then (if (decide ((0 : Int) ≤ p1_v)) = true then (if (decide ((0 : Int) ≤ p2_w)) = true then (if (decide (p1_v < p0_g_Size)) = true then (if (decide (p2_w < p0_g_Size)) = true then S_spec_l2Pair_j1 F (p1_v != p2_w) else S_spec_l2Pair_j1 F false) else S_spec_l2Pair_j1 F false) else S_spec_l2Pair_j1 F false) else S_spec_l2Pair_j1 F false) else S_spec_l2Pair_j1 F false))

def S_spec_AddEdge_j1 (F : Nat) (p1_v : Int) (p2_w : Int) (r10 : Int × (List (Int))) (p24 : Bool) : Option (Int × (List (Int)) × Bool) :=
  (if p24 = true then some (r10.1, r10.2, false) else ((idxL r10.2 p1_v).bind fun x29 => ((nnO p2_w).bind fun _ => ((idxL r10.2 p1_v).bind fun x30 => ((idxL (r10.2.set (p1_v.toNat) (IntKind.i64.wrap (x29 + (shL 1 p2_w)))) p2_w).bind fun x34 => ((nnO p1_v).bind fun _ => ((idxL (r10.2.set (p1_v.toNat) (IntKind.i64.wrap (x29 + (shL 1 p2_w)))) p2_w).bind fun x35 => some (r10.1, ((r10.2.set (p1_v.toNat) (IntKind.i64.wrap (x29 + (shL 1 p2_w)))).set (p2_w.toNat) (IntKind.i64.wrap (x34 + (shL 1 p1_v)))), true))))))))

def S_spec_AddEdge (F : Nat) (p0_g_Size : Int) (p0_g_Rows : List Int) (p1_v : Int) (p2_w : Int) : Option (Int × (List (Int)) × Bool) :=
  ((S_spec_l2Copy F p0_g_Size p0_g_Rows).bind fun r10 => ((S_spec_l2Pair F p0_g_Size p0_g_Rows p1_v p2_w).bind fun r37 => (if (!r37) = true then S_spec_AddEdge_j1 F p1_v p2_w r10 true else ((S_spec_l2Edge F p0_g_Size p0_g_Rows p1_v p2_w).bind fun r38 => S_spec_AddEdge_j1 F p1_v p2_w r10 r38))))

def S_spec_ParseGraph_j2 (F : Nat) (p0_s : List UInt8) (x360 : Int) (l362 : List Int) : Option (Int × (List (Int)) × Bool) :=
  ((S_spec_FormatGraph F x360 l362).bind fun r370 => (if (r370 != p0_s) = true then some (0, ([] : List (Int)), false) else some (x360, l362, true)))

def S_spec_ParseGraph_j5 (F : Nat) (x482 : Int) (x671 : Int) (l673 : List Int) (p674 : Bool) : Option ((Int × (List Int) × Int) ⊕ ((Int × (List Int)) ⊕ (Int × (List (Int)) × Bool))) :=
  (if (!p674) = true then some (Sum.inr (Sum.inr (0, ([] : List (Int)), false))) else some (Sum.inl (x671, l673, (IntKind.i64.wrap (x482 + 1)))))

def S_spec_ParseGraph_j4 (F : Nat) (r7 : (List (List UInt8))) (x479 : Int) (l481 : List Int) (x482 : Int) (p661 : Bool) : Option ((Int × (List Int) × Int) ⊕ ((Int × (List Int)) ⊕ (Int × (List (Int)) × Bool))) :=
  (if p661 = true then some (Sum.inr (Sum.inr (0, ([] : List (Int)), false))) else ((idxL r7 x482).bind fun x680 => ((idxL x680 0).bind fun x681 => ((idxL r7 x482).bind fun x682 => ((idxL x682 1).bind fun x683 => ((S_spec_AddEdge F x479 l481 (IntKind.i64.wrap (IntKind.u8.wrap ((x681.toNat : Int) - 48))) (IntKind.i64.wrap (IntKind.u8.wrap ((x683.toNat : Int) - 48)))).bind fun r87s => S_spec_ParseGraph_j5 F x482 r87s.1 r87s.2.1 r87s.2.2))))))

def S_spec_ParseGraph_l3 (F : Nat) (r7 : (List (List UInt8))) (x479 : Int) (l481 : List Int) (x482 : Int) : Option ((Int × (List Int) × Int) ⊕ ((Int × (List Int)) ⊕ (Int × (List (Int)) × Bool))) :=
  (if (decide (x482 < (r7.length : Int))) = true then ((idxL r7 x482).bind fun x686 => (if ((x686.length : Int) != 2) = true then S_spec_ParseGraph_j4 F r7 x479 l481 x482 true else ((idxL r7 x482).bind fun x687 => ((idxL x687 0).bind fun x688 => (if (decide ((x688.toNat : Int) < 48)) = true then S_spec_ParseGraph_j4 F r7 x479 l481 x482 true else ((idxL r7 x482).bind fun x689 => ((idxL x689 1).bind fun x690 => S_spec_ParseGraph_j4 F r7 x479 l481 x482 (decide ((x690.toNat : Int) < 48))))))))) else some (Sum.inr (Sum.inl (x479, l481))))

def S_spec_ParseGraph_j1 (F : Nat) (p0_s : List UInt8) (r7 : (List (List UInt8))) (p29 : Bool) : Option (Int × (List (Int)) × Bool) :=
  (if p29 = true then some (0, ([] : List (Int)), false) else ((idxL r7 0).bind fun x35 => ((idxL x35 0).bind fun x36 => ((mkO (IntKind.i64.wrap (IntKind.u8.wrap ((x36.toNat : Int) - 48)))).bind fun _ => (loopN (σ := (Int × (List Int) × Int)) (β := ((Int × (List Int)) ⊕ (Int × (List (Int)) × Bool))) (fun s => S_spec_ParseGraph_l3 F r7 s.1 s.2.1 s.2.2) F ((IntKind.i64.wrap (IntKind.u8.wrap ((x36.toNat : Int) - 48))), (List.replicate (IntKind.i64.wrap (IntKind.u8.wrap ((x36.toNat : Int) - 48))).toNat (0 : Int)), 1)).bind (fun b => (match b with | .inl o => S_spec_ParseGraph_j2 F p0_s o.1 o.2 | .inr o => some o))))))

def S_spec_ParseGraph (F : Nat) (p0_s : List UInt8) : Option (Int × (List (Int)) × Bool) :=
  ((S_spec_l2Cut F p0_s 32).bind fun r7 => ((idxL r7 0).bind fun x691 => (if ((x691.length : Int) != 2) = true then S_spec_ParseGraph_j1 F p0_s r7 true else ((idxL r7 0).bind fun x692 => ((idxL x692 0).bind fun x693 => (if (decide ((x693.toNat : Int) < 49)) = true then S_spec_ParseGraph_j1 F p0_s r7 true else ((idxL r7 0).bind fun x694 => ((idxL x694 0).bind fun x695 => S_spec_ParseGraph_j1 F p0_s r7 (decide ((55 : Int) < (x695.toNat : Int)))))))))))

def S_impl_ParseGraph_j2 (F : Nat) (p0_s : List UInt8) (x19 : UInt8) (l204 : List Int) : Option (Int × (List (Int)) × Bool) :=
  ((S_impl_FormatGraph F (IntKind.i64.wrap ((IntKind.i64.wrap (x19.toNat : Int)) - 48)) l204).bind fun r212 => (if (r212 != p0_s) = true then some (0, ([] : List (Int)), false) else some ((IntKind.i64.wrap ((IntKind.i64.wrap (x19.toNat : Int)) - 48)), l204, true)))

def S_impl_ParseGraph_j4 (F : Nat) (l275 : List Int) (x276 : Int) (x369 : UInt8) (x370 : UInt8) (p382 : Bool) : Option (((List Int) × Int) ⊕ (((List Int)) ⊕ (Int × (List (Int)) × Bool))) :=
  (if p382 = true then some (Sum.inr (Sum.inr (0, ([] : List (Int)), false))) else ((idxL l275 (IntKind.i64.wrap ((IntKind.i64.wrap (x369.toNat : Int)) - 48))).bind fun x387 => ((nnO (IntKind.i64.wrap ((IntKind.i64.wrap (x370.toNat : Int)) - 48))).bind fun _ => ((idxL l275 (IntKind.i64.wrap ((IntKind.i64.wrap (x369.toNat : Int)) - 48))).bind fun x388 => ((idxL (l275.set ((IntKind.i64.wrap ((IntKind.i64.wrap (x369.toNat : Int)) - 48)).toNat) (bOr x387 (shL 1 (IntKind.i64.wrap ((IntKind.i64.wrap (x370.toNat : Int)) - 48))))) (IntKind.i64.wrap ((IntKind.i64.wrap (x370.toNat : Int)) - 48))).bind fun x389 => ((nnO (IntKind.i64.wrap ((IntKind.i64.wrap (x369.toNat : Int)) - 48))).bind fun _ => ((idxL (l275.set ((IntKind.i64.wrap ((IntKind.i64.wrap (x369.toNat : Int)) - 48)).toNat) (bOr x387 (shL 1 (IntKind.i64.wrap ((IntKind.i64.wrap (x370.toNat : Int)) - 48))))) (IntKind.i64.wrap ((IntKind.i64.wrap (x370.toNat : Int)) - 48))).bind fun x390 => some (Sum.inl (((l275.set ((IntKind.i64.wrap ((IntKind.i64.wrap (x369.toNat : Int)) - 48)).toNat) (bOr x387 (shL 1 (IntKind.i64.wrap ((IntKind.i64.wrap (x370.toNat : Int)) - 48))))).set ((IntKind.i64.wrap ((IntKind.i64.wrap (x370.toNat : Int)) - 48)).toNat) (bOr x389 (shL 1 (IntKind.i64.wrap ((IntKind.i64.wrap (x369.toNat : Int)) - 48))))), (IntKind.i64.wrap (x276 + 3)))))))))))

def S_impl_ParseGraph_l3 (F : Nat) (p0_s : List UInt8) (x19 : UInt8) (l275 : List Int) (x276 : Int) : Option (((List Int) × Int) ⊕ (((List Int)) ⊕ (Int × (List (Int)) × Bool))) :=
  (if (decide ((IntKind.i64.wrap (x276 + 2)) < (p0_s.length : Int))) = true then ((idxL p0_s (IntKind.i64.wrap (x276 + 1))).bind fun x369 => ((idxL p0_s (IntKind.i64.wrap (x276 + 2))).bind fun x370 => ((S_impl_within F (IntKind.i64.wrap ((IntKind.i64.wrap (x369.toNat : Int)) - 48)) 0 (IntKind.i64.wrap ((IntKind.i64.wrap ((IntKind.i64.wrap (x19.toNat : Int)) - 48)) - 1))).bind fun r391 => (if (!r391) = true then S_impl_ParseGraph_j4 F l275 x276 x369 x370 true else ((S_impl_within F (IntKind.i64.wrap ((IntKind.i64.wrap (x370.toNat : Int)) - 48)) 0 (IntKind.i64.wrap ((IntKind.i64.wrap ((IntKind.i64.wrap (x19.toNat : Int)) - 48)) - 1))).bind fun r392 => (if (!r392) = true then S_impl_ParseGraph_j4 F l275 x276 x369 x370 true else S_impl_ParseGraph_j4 F l275 x276 x369 x370 ((IntKind.i64.wrap ((IntKind.i64.wrap (x369.toNat : Int)) - 48)) == (IntKind.i64.wrap ((IntKind.i64.wrap (x370.toNat : Int)) - 48))))))))) else some (Sum.inr (Sum.inl l275)))

def S_impl_ParseGraph_j1 (F : Nat) (p0_s : List UInt8) (p15 : Bool) : Option (Int × (List (Int)) × Bool) :=
  (if p15 = true then some (0, ([] : List (Int)), false) else ((idxL p0_s 0).bind fun x19 => ((mkO (IntKind.i64.wrap ((IntKind.i64.wrap (x19.toNat : Int)) - 48))).bind fun _ => (loopN (σ := ((List Int) × Int)) (β := (((List Int)) ⊕ (Int × (List (Int)) × Bool))) (fun s => S_impl_ParseGraph_l3 F p0_s x19 s.1 s.2) F ((List.replicate (IntKind.i64.wrap ((IntKind.i64.wrap (x19.toNat : Int)) - 48)).toNat (0 : Int)), 2)).bind (fun b => (match b with | .inl o => S_impl_ParseGraph_j2 F p0_s x19 o | .inr o => some o)))))

def S_impl_ParseGraph (F : Nat) (p0_s : List UInt8) : Option (Int × (List (Int)) × Bool) :=
  (if (p0_s == ([] : List UInt8)) = true then S_impl_ParseGraph_j1 F p0_s true else ((idxL p0_s 0).bind fun x393 => ((S_impl_within F (IntKind.i64.wrap ((IntKind.i64.wrap (x393.toNat : Int)) - 48)) 1 7).bind fun r394 => S_impl_ParseGraph_j1 F p0_s (!r394))))

def S_laws_markIntS_j1 (F : Nat) (x39 : Int) (l40 : List Int) : Option (Int × (List (Int))) :=
  some (x39, l40)

def S_laws_markIntS_l2 (F : Nat) (l55 : List Int) (x56 : Int) (x57 : Int) : Option (((List Int) × Int × Int) ⊕ ((Int × (List Int)))) :=
  (if (decide (x57 < (l55.length : Int))) = true then ((idxL l55 x57).bind fun x77 => some (Sum.inl ((l55.set (x57.toNat) x56), (IntKind.i64.wrap (x56 + 1)), (IntKind.i64.wrap (x57 + 1))))) else some (Sum.inr (x56, l55)))

def S_laws_markIntS (F : Nat) (p0_a : List Int) (p1_k : Int) : Option (Int × (List (Int))) :=
  (loopN (σ := ((List Int) × Int × Int)) (β := ((Int × (List Int)))) (fun s => S_laws_markIntS_l2 F s.1 s.2.1 s.2.2) F (p0_a, p1_k, 0)).bind (fun b => S_laws_markIntS_j1 F b.1 b.2)

def S_laws_markGraph (F : Nat) (p0_a_Size : Int) (p0_a_Rows : List Int) (p1_k : Int) : Option (Int × (List (Int))) :=
  ((S_laws_markIntS F p0_a_Rows p1_k).bind fun r6 => some (r6.1, r6.2))

def S_laws_heldIntS_j1 (F : Nat) (x50 : Int) : Option (Int) :=
  some x50

def S_laws_heldIntS_l2 (F : Nat) (p0_a : List Int) (x53 : Int) (x54 : Int) : Option ((Int × Int) ⊕ (Int ⊕ Int)) :=
  (if (decide (x54 < (p0_a.length : Int))) = true then ((idxL p0_a x54).bind fun x97 => (if (x97 != x53) = true then some (Sum.inr (Sum.inr (-1))) else some (Sum.inl ((IntKind.i64.wrap (x53 + 1)), (IntKind.i64.wrap (x54 + 1)))))) else some (Sum.inr (Sum.inl x53)))

def S_laws_heldIntS (F : Nat) (p0_a : List Int) (p1_k : Int) : Option (Int) :=
  (loopN (σ := (Int × Int)) (β := (Int ⊕ Int)) (fun s => S_laws_heldIntS_l2 F p0_a s.1 s.2) F (p1_k, 0)).bind (fun b => (match b with | .inl o => S_laws_heldIntS_j1 F o | .inr o => some o))

def S_laws_heldGraph (F : Nat) (p0_a_Size : Int) (p0_a_Rows : List Int) (p1_k : Int) : Option (Int) :=
  ((S_laws_heldIntS F p0_a_Rows p1_k).bind fun r6 => (if (decide (r6 < 0)) = true then some (-1) else some r6))

def S_laws_FnExactParseGraph_j2 (F : Nat) (r18 : Int × (List (Int)) × Bool) (r34 : Int × (List (Int))) (p64 : Bool) : Option (Bool) :=
  (if p64 = true then some false else ((S_laws_heldGraph F r18.1 r34.2 1).bind fun r69 => (if (decide (r69 < 0)) = true then some false else (if (r69 != r34.1) = true then some false else some true))))

def S_laws_FnExactParseGraph_j1 (F : Nat) (p0_aS : List UInt8) (r11 : Int × (List (Int)) × Bool) (r18 : Int × (List (Int)) × Bool) (p29 : Bool) : Option (Bool) :=
  (if p29 = true then some false else ((S_laws_markGraph F r18.1 r18.2.1 1).bind fun r34 => ((S_laws_heldGraph F r18.1 r34.2 1).bind fun r38 => (if (decide (r38 < 0)) = true then some false else (if (r38 != r34.1) = true then some false else ((S_impl_ParseGraph F p0_aS).bind fun r53 => ((S_laws_eqGraph F r53.1 r53.2.1 r11.1 r11.2.1).bind fun r81 => (if (!r81) = true then S_laws_FnExactParseGraph_j2 F r18 r34 true else S_laws_FnExactParseGraph_j2 F r18 r34 (r53.2.2 != r11.2.2)))))))))

def S_laws_FnExactParseGraph (F : Nat) (p0_aS : List UInt8) : Option (Bool) :=
  (if (decide ((1048576 : Int) < (p0_aS.length : Int))) = true then some true else ((S_spec_ParseGraph F p0_aS).bind fun r11 => ((S_impl_ParseGraph F p0_aS).bind fun r18 => ((S_laws_eqGraph F r18.1 r18.2.1 r11.1 r11.2.1).bind fun r82 => (if (!r82) = true then S_laws_FnExactParseGraph_j1 F p0_aS r11 r18 true else S_laws_FnExactParseGraph_j1 F p0_aS r11 r18 (r18.2.2 != r11.2.2))))))

end Go.Proofs.YtgddopammpjkgaaDoor
