/- Proved here: nothing but what each Go function of the seat computes, as printed by my translator -/
import Derived.Test.YtmlgjhgicoggdaaK8
namespace Go.Proofs.Ytmlgjhgicoggdaa
open Go Go.RowKit
set_option linter.unusedVariables false
set_option linter.unusedSimpArgs false
set_option maxRecDepth 100000

def S_laws_FnExactConstants (F : Nat) : Option (Bool) :=
  some true

def S_spec_l1Digit (F : Nat) (p0_k : Int) : Option (Int) :=
  ((idxL ([48, 49, 50, 51, 52, 53, 54, 55, 56, 57, 97, 98, 99, 100, 101, 102] : List UInt8) p0_k).bind fun x4 => some (x4.toNat : Int))

def S_spec_EncodeHex_j1 (F : Nat) (l43 : List Int) : Option ((List UInt8)) :=
  some (u8s l43)

def S_spec_EncodeHex_l2 (F : Nat) (p0_s : List UInt8) (l47 : List Int) (x48 : Int) : Option (((List Int) × Int) ⊕ (((List Int)))) :=
  (if (decide (x48 < (p0_s.length : Int))) = true then ((idxL p0_s x48).bind fun x75 => ((idxL p0_s x48).bind fun x76 => ((S_spec_l1Digit F (IntKind.i64.wrap ((IntKind.i64.wrap (x75.toNat : Int)).tdiv 16))).bind fun r77 => ((S_spec_l1Digit F ((IntKind.i64.wrap (x76.toNat : Int)).tmod 16)).bind fun r78 => ((catO l47.length ([r77, r78] : List (Int)).length).bind fun _ => some (Sum.inl ((l47 ++ ([r77, r78] : List (Int))), (IntKind.i64.wrap (x48 + 1))))))))) else some (Sum.inr l47))

def S_spec_EncodeHex (F : Nat) (p0_s : List UInt8) : Option ((List UInt8)) :=
  (loopN (σ := ((List Int) × Int)) (β := (((List Int)))) (fun s => S_spec_EncodeHex_l2 F p0_s s.1 s.2) F (([] : List (Int)), 0)).bind (fun b => S_spec_EncodeHex_j1 F b)

def S_impl_EncodeHex_j1 (F : Nat) (l43 : List Int) : Option ((List UInt8)) :=
  some (u8s l43)

def S_impl_EncodeHex_l2 (F : Nat) (p0_s : List UInt8) (l47 : List Int) (x48 : Int) : Option (((List Int) × Int) ⊕ (((List Int)))) :=
  (if (decide (x48 < (p0_s.length : Int))) = true then ((idxL p0_s x48).bind fun x75 => ((idxL ([48, 49, 50, 51, 52, 53, 54, 55, 56, 57, 97, 98, 99, 100, 101, 102] : List UInt8) (IntKind.u8.wrap ((x75.toNat : Int).tdiv 16))).bind fun x76 => ((idxL p0_s x48).bind fun x77 => ((idxL ([48, 49, 50, 51, 52, 53, 54, 55, 56, 57, 97, 98, 99, 100, 101, 102] : List UInt8) ((x77.toNat : Int).tmod 16)).bind fun x78 => ((catO l47.length ([(x76.toNat : Int), (x78.toNat : Int)] : List (Int)).length).bind fun _ => some (Sum.inl ((l47 ++ ([(x76.toNat : Int), (x78.toNat : Int)] : List (Int))), (IntKind.i64.wrap (x48 + 1))))))))) else some (Sum.inr l47))

def S_impl_EncodeHex (F : Nat) (p0_s : List UInt8) : Option ((List UInt8)) :=
  (loopN (σ := ((List Int) × Int)) (β := (((List Int)))) (fun s => S_impl_EncodeHex_l2 F p0_s s.1 s.2) F (([] : List (Int)), 0)).bind (fun b => S_impl_EncodeHex_j1 F b)

def S_laws_FnExactEncodeHex (F : Nat) (p0_aS : List UInt8) : Option (Bool) :=
  (if (decide ((1048576 : Int) < (p0_aS.length : Int))) = true then some true else ((S_spec_EncodeHex F p0_aS).bind fun r9 => ((S_impl_EncodeHex F p0_aS).bind fun r12 => (if (r12 != r9) = true then some false else some true))))

def S_spec_l1In_j1 (F : Nat) (p3 : Bool) : Option (Bool) :=
  some p3

def S_spec_l1In (F : Nat) (p0_x : Int) (p1_low : Int) (p2_high : Int) : Option (Bool) :=
  (if (decide (p1_low ≤ p0_x)) = true then S_spec_l1In_j1 F (decide (p0_x ≤ p2_high)) else S_spec_l1In_j1 F false)

def S_spec_DecodeFixed_j2 (F : Nat) (x29 : Int) : Option (Int × Bool) :=
  some (x29, true)

def S_spec_DecodeFixed_l3 (F : Nat) (p0_s : List UInt8) (p1_width : Int) (x32 : Int) (x33 : Int) : Option ((Int × Int) ⊕ (Int)) :=
  (if (decide (x33 < p1_width)) = true then ((idxL p0_s x33).bind fun x45 => some (Sum.inl ((IntKind.i64.wrap ((IntKind.i64.wrap (x32 * 256)) + (IntKind.i64.wrap (x45.toNat : Int)))), (IntKind.i64.wrap (x33 + 1))))) else some (Sum.inr x32))

def S_spec_DecodeFixed_j1 (F : Nat) (p0_s : List UInt8) (p1_width : Int) (p10 : Bool) : Option (Int × Bool) :=
  (if p10 = true then some (0, false) else (loopN (σ := (Int × Int)) (β := Int) (fun s => S_spec_DecodeFixed_l3 F p0_s p1_width s.1 s.2) F (0, 0)).bind (fun b => S_spec_DecodeFixed_j2 F b))

def S_spec_DecodeFixed (F : Nat) (p0_s : List UInt8) (p1_width : Int) : Option (Int × Bool) :=
  ((S_spec_l1In F p1_width 1 7).bind fun r46 => (if (!r46) = true then S_spec_DecodeFixed_j1 F p0_s p1_width true else S_spec_DecodeFixed_j1 F p0_s p1_width (decide ((p0_s.length : Int) < p1_width))))

def S_impl_within_j1 (F : Nat) (p3 : Bool) : Option (Bool) :=
  some p3

def S_impl_within (F : Nat) (p0_n : Int) (p1_low : Int) (p2_high : Int) : Option (Bool) :=
  (if (decide (p1_low ≤ p0_n)) = true then S_impl_within_j1 F (decide (p0_n ≤ p2_high)) else S_impl_within_j1 F false)

def S_impl_DecodeFixed_j2 (F : Nat) (x31 : Int) : Option (Int × Bool) :=
  some (x31, true)

def S_impl_DecodeFixed_l3 (F : Nat) (p0_s : List UInt8) (p1_width : Int) (x34 : Int) (x35 : Int) : Option ((Int × Int) ⊕ (Int)) :=
  (if (decide (x35 < p1_width)) = true then ((idxL p0_s x35).bind fun x49 => some (Sum.inl ((bOr (shL x34 8) (IntKind.i64.wrap (x49.toNat : Int))), (IntKind.i64.wrap (x35 + 1))))) else some (Sum.inr x34))

def S_impl_DecodeFixed_j1 (F : Nat) (p0_s : List UInt8) (p1_width : Int) (p10 : Bool) : Option (Int × Bool) :=
  (if p10 = true then some (0, false) else (loopN (σ := (Int × Int)) (β := Int) (fun s => S_impl_DecodeFixed_l3 F p0_s p1_width s.1 s.2) F (0, 0)).bind (fun b => S_impl_DecodeFixed_j2 F b))

def S_impl_DecodeFixed (F : Nat) (p0_s : List UInt8) (p1_width : Int) : Option (Int × Bool) :=
  ((S_impl_within F p1_width 1 7).bind fun r50 => (if (!r50) = true then S_impl_DecodeFixed_j1 F p0_s p1_width true else S_impl_DecodeFixed_j1 F p0_s p1_width (decide ((p0_s.length : Int) < p1_width))))

def S_laws_FnExactDecodeFixed_j1 (F : Nat) (p18 : Bool) : Option (Bool) :=
  (if p18 = true then some false else some true)

def S_laws_FnExactDecodeFixed (F : Nat) (p0_aS : List UInt8) (p1_aWidth : Int) : Option (Bool) :=
  (if (decide ((1048576 : Int) < (p0_aS.length : Int))) = true then some true else ((S_spec_DecodeFixed F p0_aS p1_aWidth).bind fun r9 => ((S_impl_DecodeFixed F p0_aS p1_aWidth).bind fun r12 => (if (r12.1 != r9.1) = true then S_laws_FnExactDecodeFixed_j1 F true else S_laws_FnExactDecodeFixed_j1 F (r12.2 != r9.2)))))

def S_spec_EncodeVarint_j1 (F : Nat) (x34 : Int) (l36 : List Int) : Option ((List UInt8)) :=
  ((catO l36.length ([(IntKind.u8.wrap x34)] : List (Int)).length).bind fun _ => some (u8s (l36 ++ ([(IntKind.u8.wrap x34)] : List (Int)))))

def S_spec_EncodeVarint_l2 (F : Nat) (x42 : Int) (l44 : List Int) : Option ((Int × (List Int)) ⊕ ((Int × (List Int)))) :=
  (if (decide ((128 : Int) ≤ x42)) = true then ((catO l44.length ([(IntKind.u8.wrap (IntKind.i64.wrap (128 + (x42.tmod 128))))] : List (Int)).length).bind fun _ => some (Sum.inl ((IntKind.i64.wrap (x42.tdiv 128)), (l44 ++ ([(IntKind.u8.wrap (IntKind.i64.wrap (128 + (x42.tmod 128))))] : List (Int)))))) else some (Sum.inr (x42, l44)))

def S_spec_EncodeVarint (F : Nat) (p0_n : Int) : Option ((List UInt8)) :=
  ((S_spec_l1In F p0_n 0 562949953421311).bind fun r9 => (if (!r9) = true then some ([] : List UInt8) else (loopN (σ := (Int × (List Int))) (β := ((Int × (List Int)))) (fun s => S_spec_EncodeVarint_l2 F s.1 s.2) F (p0_n, ([] : List (Int)))).bind (fun b => S_spec_EncodeVarint_j1 F b.1 b.2)))

def S_impl_EncodeVarint_j1 (F : Nat) (x34 : Int) (l36 : List Int) : Option ((List UInt8)) :=
  ((catO l36.length ([(IntKind.u8.wrap x34)] : List (Int)).length).bind fun _ => some (u8s (l36 ++ ([(IntKind.u8.wrap x34)] : List (Int)))))

def S_impl_EncodeVarint_l2 (F : Nat) (x42 : Int) (l44 : List Int) : Option ((Int × (List Int)) ⊕ ((Int × (List Int)))) :=
  (if (decide ((128 : Int) ≤ x42)) = true then ((catO l44.length ([(IntKind.u8.wrap (IntKind.i64.wrap ((x42.tmod 128) + 128)))] : List (Int)).length).bind fun _ => some (Sum.inl ((IntKind.i64.wrap (x42.tdiv 128)), (l44 ++ ([(IntKind.u8.wrap (IntKind.i64.wrap ((x42.tmod 128) + 128)))] : List (Int)))))) else some (Sum.inr (x42, l44)))

def S_impl_EncodeVarint (F : Nat) (p0_n : Int) : Option ((List UInt8)) :=
  ((S_impl_within F p0_n 0 562949953421311).bind fun r9 => (if (!r9) = true then some ([] : List UInt8) else (loopN (σ := (Int × (List Int))) (β := ((Int × (List Int)))) (fun s => S_impl_EncodeVarint_l2 F s.1 s.2) F (p0_n, ([] : List (Int)))).bind (fun b => S_impl_EncodeVarint_j1 F b.1 b.2)))

def S_laws_FnExactEncodeVarint (F : Nat) (p0_aN : Int) : Option (Bool) :=
  ((S_spec_EncodeVarint F p0_aN).bind fun r4 => ((S_impl_EncodeVarint F p0_aN).bind fun r7 => (if (r7 != r4) = true then some false else some true)))

def S_spec_EncodeFixed_j2 (F : Nat) (x38 : Int) (s39 : List UInt8) : Option ((List UInt8)) :=
  (if (decide ((0 : Int) < x38)) = true then some ([] : List UInt8) else some s39)

def S_spec_EncodeFixed_l3 (F : Nat) (p1_width : Int) (x47 : Int) (s48 : List UInt8) (x49 : Int) : Option ((Int × (List UInt8) × Int) ⊕ ((Int × (List UInt8)))) :=
  (if (decide (x49 < p1_width)) = true then ((catO (u8s ([(IntKind.u8.wrap (x47.tmod 256))] : List (Int))).length s48.length).bind fun _ => some (Sum.inl ((IntKind.i64.wrap (x47.tdiv 256)), ((u8s ([(IntKind.u8.wrap (x47.tmod 256))] : List (Int))) ++ s48), (IntKind.i64.wrap (x49 + 1))))) else some (Sum.inr (x47, s48)))

def S_spec_EncodeFixed_j1 (F : Nat) (p0_n : Int) (p1_width : Int) (p10 : Bool) : Option ((List UInt8)) :=
  (if p10 = true then some ([] : List UInt8) else (loopN (σ := (Int × (List UInt8) × Int)) (β := ((Int × (List UInt8)))) (fun s => S_spec_EncodeFixed_l3 F p1_width s.1 s.2.1 s.2.2) F (p0_n, ([] : List UInt8), 0)).bind (fun b => S_spec_EncodeFixed_j2 F b.1 b.2))

def S_spec_EncodeFixed (F : Nat) (p0_n : Int) (p1_width : Int) : Option ((List UInt8)) :=
  ((S_spec_l1In F p1_width 1 7).bind fun r70 => (if (!r70) = true then S_spec_EncodeFixed_j1 F p0_n p1_width true else S_spec_EncodeFixed_j1 F p0_n p1_width (decide (p0_n < 0))))

def S_impl_EncodeFixed_j2 (F : Nat) (l52 : List Int) : Option ((List UInt8)) :=
  some (u8s l52)

def S_impl_EncodeFixed_l3 (F : Nat) (x67 : Int) (l68 : List Int) (x69 : Int) : Option ((Int × (List Int) × Int) ⊕ (((List Int)))) :=
  (if (decide ((0 : Int) ≤ x69)) = true then ((idxL l68 x69).bind fun x89 => some (Sum.inl ((shR x67 8), (l68.set (x69.toNat) (IntKind.u8.wrap x67)), (IntKind.i64.wrap (x69 - 1))))) else some (Sum.inr l68))

def S_impl_EncodeFixed_j1 (F : Nat) (p0_n : Int) (p1_width : Int) (p10 : Bool) : Option ((List UInt8)) :=
  (if p10 = true then some ([] : List UInt8) else ((mkO p1_width).bind fun _ => (loopN (σ := (Int × (List Int) × Int)) (β := (((List Int)))) (fun s => S_impl_EncodeFixed_l3 F s.1 s.2.1 s.2.2) F (p0_n, (List.replicate p1_width.toNat (0 : Int)), (IntKind.i64.wrap (p1_width - 1)))).bind (fun b => S_impl_EncodeFixed_j2 F b)))

def S_impl_EncodeFixed (F : Nat) (p0_n : Int) (p1_width : Int) : Option ((List UInt8)) :=
  ((S_impl_within F p1_width 1 7).bind fun r90 => (if (!r90) = true then S_impl_EncodeFixed_j1 F p0_n p1_width true else (if (decide (p0_n < 0)) = true then S_impl_EncodeFixed_j1 F p0_n p1_width true else ((nnO (IntKind.i64.wrap (8 * p1_width))).bind fun _ => S_impl_EncodeFixed_j1 F p0_n p1_width ((shR p0_n (IntKind.i64.wrap (8 * p1_width))) != 0)))))

def S_laws_FnExactEncodeFixed (F : Nat) (p0_aN : Int) (p1_aWidth : Int) : Option (Bool) :=
  ((S_spec_EncodeFixed F p0_aN p1_aWidth).bind fun r4 => ((S_impl_EncodeFixed F p0_aN p1_aWidth).bind fun r7 => (if (r7 != r4) = true then some false else some true)))

def S_spec_l3Fine (F : Nat) (p0_set : Int) : Option (Bool) :=
  ((S_spec_l1In F p0_set 0 127).bind fun r4 => some r4)

def S_spec_ListOf_j1 (F : Nat) (l47 : List Int) : Option ((List (Int))) :=
  some l47

def S_spec_ListOf_j4 (F : Nat) (x52 : Int) (l84 : List Int) : Option (((List Int) × Int) ⊕ (((List Int)))) :=
  some (Sum.inl (l84, (IntKind.i64.wrap (x52 + 1))))

def S_spec_ListOf_j3 (F : Nat) (p0_set : Int) (l51 : List Int) (x52 : Int) (p78 : Bool) : Option (((List Int) × Int) ⊕ (((List Int)))) :=
  (if p78 = true then ((nnO x52).bind fun _ => (if ((bAnd (shR p0_set x52) 1) == 1) = true then ((catO l51.length ([x52] : List (Int)).length).bind fun _ => S_spec_ListOf_j4 F x52 (l51 ++ ([x52] : List (Int)))) else S_spec_ListOf_j4 F x52 l51)) else some (Sum.inr l51))

def S_spec_ListOf_l2 (F : Nat) (p0_set : Int) (l51 : List Int) (x52 : Int) : Option (((List Int) × Int) ⊕ (((List Int)))) :=
  (if (decide (x52 < 7)) = true then ((S_spec_l3Fine F p0_set).bind fun r88 => S_spec_ListOf_j3 F p0_set l51 x52 r88) else S_spec_ListOf_j3 F p0_set l51 x52 false)

def S_spec_ListOf (F : Nat) (p0_set : Int) : Option ((List (Int))) :=
  (loopN (σ := ((List Int) × Int)) (β := (((List Int)))) (fun s => S_spec_ListOf_l2 F p0_set s.1 s.2) F (([] : List (Int)), 0)).bind (fun b => S_spec_ListOf_j1 F b)

def S_spec_CountSet (F : Nat) (p0_set : Int) : Option (Int) :=
  ((S_spec_ListOf F p0_set).bind fun r5 => some (r5.length : Int))

def S_impl_has (F : Nat) (p0_set : Int) (p1_v : Int) : Option (Bool) :=
  ((nnO p1_v).bind fun _ => some ((bAnd (shR p0_set p1_v) 1) == 1))

def S_impl_ListOf_j1 (F : Nat) (l54 : List Int) : Option ((List (Int))) :=
  some l54

def S_impl_ListOf_j3 (F : Nat) (x59 : Int) (l87 : List Int) : Option (((List Int) × Int) ⊕ (((List Int)))) :=
  some (Sum.inl (l87, (IntKind.i64.wrap (x59 + 1))))

def S_impl_ListOf_l2 (F : Nat) (p0_set : Int) (l58 : List Int) (x59 : Int) : Option (((List Int) × Int) ⊕ (((List Int)))) :=
  (if (decide (x59 < 7)) = true then ((S_impl_has F p0_set x59).bind fun r91 => (if r91 = true then ((catO l58.length ([x59] : List (Int)).length).bind fun _ => S_impl_ListOf_j3 F x59 (l58 ++ ([x59] : List (Int)))) else S_impl_ListOf_j3 F x59 l58)) else some (Sum.inr l58))

def S_impl_ListOf (F : Nat) (p0_set : Int) : Option ((List (Int))) :=
  ((S_impl_within F p0_set 0 127).bind fun r12 => (if (!r12) = true then some ([] : List (Int)) else (loopN (σ := ((List Int) × Int)) (β := (((List Int)))) (fun s => S_impl_ListOf_l2 F p0_set s.1 s.2) F (([] : List (Int)), 0)).bind (fun b => S_impl_ListOf_j1 F b)))

def S_impl_CountSet (F : Nat) (p0_set : Int) : Option (Int) :=
  ((S_impl_ListOf F p0_set).bind fun r5 => some (r5.length : Int))

def S_laws_FnExactCountSet (F : Nat) (p0_aSet : Int) : Option (Bool) :=
  ((S_spec_CountSet F p0_aSet).bind fun r4 => ((S_impl_CountSet F p0_aSet).bind fun r7 => (if (r7 != r4) = true then some false else some true)))

end Go.Proofs.Ytmlgjhgicoggdaa
