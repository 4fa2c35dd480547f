/- Proved here: nothing but what each Go function of the seat computes, as printed by my translator -/
import Derived.Test.YtdalcpadcggklaaDoorK12
namespace Go.Proofs.YtdalcpadcggklaaDoor
open Go Go.RowKit
set_option linter.unusedVariables false
set_option linter.unusedSimpArgs false
set_option maxRecDepth 100000
set_option maxHeartbeats 40000000

def S_impl_within_j1 (F : Nat) (p3 : Bool) : Option (Bool) :=
  some p3

def S_impl_within (F : Nat) (p0_n : Int) (p1_low : Int) (p2_high : Int) : Option (Bool) :=
  (if (decide (p1_low ≤ p0_n)) = true then S_impl_within_j1 F (decide (p0_n ≤ p2_high)) else S_impl_within_j1 F false)

def S_impl_has (F : Nat) (p0_set : Int) (p1_v : Int) : Option (Bool) :=
  ((nnO p1_v).bind fun _ => some ((bAnd (shR p0_set p1_v) 1) == 1))

def S_impl_IsGraph_j3 (F : Nat) : Option (Bool) :=
  some true

def S_impl_IsGraph_j5 (F : Nat) (x262 : Int) : Option ((Int) ⊕ (Unit ⊕ Bool)) :=
  some (Sum.inl (IntKind.i64.wrap (x262 + 1)))

def S_impl_IsGraph_l6 (F : Nat) (p0_g_Rows : List Int) (x262 : Int) (x412 : Int) (x414 : Int) : Option ((Int) ⊕ (Unit ⊕ Bool)) :=
  (if (decide (x414 < x262)) = true then ((idxL p0_g_Rows x414).bind fun x453 => ((S_impl_has F x412 x414).bind fun r454 => ((S_impl_has F x453 x262).bind fun r455 => (if (r454 != r455) = true then some (Sum.inr (Sum.inr false)) else some (Sum.inl (IntKind.i64.wrap (x414 + 1))))))) else some (Sum.inr (Sum.inl ())))

def S_impl_IsGraph_l4 (F : Nat) (p0_g_Rows : List Int) (x262 : Int) : Option ((Int) ⊕ (Unit ⊕ Bool)) :=
  (if (decide (x262 < (p0_g_Rows.length : Int))) = true then ((idxL p0_g_Rows x262).bind fun x412 => (loopN (σ := Int) (β := (Unit ⊕ Bool)) (fun s => S_impl_IsGraph_l6 F p0_g_Rows x262 x412 s) F 0).bind (fun b => (match b with | .inl o => S_impl_IsGraph_j5 F x262 | .inr o => some (Sum.inr (Sum.inr o))))) else some (Sum.inr (Sum.inl ())))

def S_impl_IsGraph_j2 (F : Nat) (p0_g_Rows : List Int) : Option (Bool) :=
  (loopN (σ := Int) (β := (Unit ⊕ Bool)) (fun s => S_impl_IsGraph_l4 F p0_g_Rows s) F 0).bind (fun b => (match b with | .inl o => S_impl_IsGraph_j3 F | .inr o => some o))

def S_impl_IsGraph_j8 (F : Nat) (x458 : Int) (p501 : Bool) : Option ((Int) ⊕ (Unit ⊕ Bool)) :=
  (if p501 = true then some (Sum.inr (Sum.inr false)) else some (Sum.inl (IntKind.i64.wrap (x458 + 1))))

def S_impl_IsGraph_l7 (F : Nat) (p0_g_Size : Int) (p0_g_Rows : List Int) (x458 : Int) : Option ((Int) ⊕ (Unit ⊕ Bool)) :=
  (if (decide (x458 < (p0_g_Rows.length : Int))) = true then ((idxL p0_g_Rows x458).bind fun x497 => ((nnO p0_g_Size).bind fun _ => ((S_impl_within F x497 0 (IntKind.i64.wrap ((shL 1 p0_g_Size) - 1))).bind fun r503 => (if (!r503) = true then S_impl_IsGraph_j8 F x458 true else ((S_impl_has F x497 x458).bind fun r504 => S_impl_IsGraph_j8 F x458 r504))))) else some (Sum.inr (Sum.inl ())))

def S_impl_IsGraph_j1 (F : Nat) (p0_g_Size : Int) (p0_g_Rows : List Int) (p12 : Bool) : Option (Bool) :=
  (if p12 = true then some false else (loopN (σ := Int) (β := (Unit ⊕ Bool)) (fun s => S_impl_IsGraph_l7 F p0_g_Size p0_g_Rows s) F 0).bind (fun b => (match b with | .inl o => S_impl_IsGraph_j2 F p0_g_Rows | .inr o => some o)))

def S_impl_IsGraph (F : Nat) (p0_g_Size : Int) (p0_g_Rows : List Int) : Option (Bool) :=
  ((S_impl_within F p0_g_Size 1 7).bind fun r505 => (if (!r505) = true then S_impl_IsGraph_j1 F p0_g_Size p0_g_Rows true else S_impl_IsGraph_j1 F p0_g_Size p0_g_Rows ((p0_g_Rows.length : Int) != p0_g_Size)))

def S_impl_all (F : Nat) (p0_g_Size : Int) (p0_g_Rows : List Int) : Option (Int) :=
  ((nnO p0_g_Size).bind fun _ => some (IntKind.i64.wrap ((shL 1 p0_g_Size) - 1)))

def S_impl_IsSet_j1 (F : Nat) (p8 : Bool) : Option (Bool) :=
  some p8

def S_impl_IsSet (F : Nat) (p0_g_Size : Int) (p0_g_Rows : List Int) (p1_set : Int) : Option (Bool) :=
  ((S_impl_IsGraph F p0_g_Size p0_g_Rows).bind fun r9 => (if r9 = true then ((S_impl_all F p0_g_Size p0_g_Rows).bind fun r10 => ((S_impl_within F p1_set 0 r10).bind fun r11 => S_impl_IsSet_j1 F r11)) else S_impl_IsSet_j1 F false))

def S_spec_l1In_j1 (F : Nat) (p3 : Bool) : Option (Bool) :=
  some p3

def S_spec_l1In (F : Nat) (p0_x : Int) (p1_low : Int) (p2_high : Int) : Option (Bool) :=
  (if (decide (p1_low ≤ p0_x)) = true then S_spec_l1In_j1 F (decide (p0_x ≤ p2_high)) else S_spec_l1In_j1 F false)

def S_spec_IsGraph_j2 (F : Nat) : Option (Bool) :=
  some true

def S_spec_IsGraph_j4 (F : Nat) (x319 : Int) : Option ((Int) ⊕ (Unit ⊕ Bool)) :=
  some (Sum.inl (IntKind.i64.wrap (x319 + 1)))

def S_spec_IsGraph_j7 (F : Nat) (x564 : Int) (p611 : Bool) : Option ((Int) ⊕ (Unit ⊕ Bool)) :=
  (if p611 = true then some (Sum.inr (Sum.inr false)) else some (Sum.inl (IntKind.i64.wrap (x564 + 1))))

def S_spec_IsGraph_l6 (F : Nat) (p0_g_Size : Int) (p0_g_Rows : List Int) (x319 : Int) (x564 : Int) : Option ((Int) ⊕ (Unit ⊕ Bool)) :=
  (if (decide (x564 < p0_g_Size)) = true then ((idxL p0_g_Rows x319).bind fun x613 => ((nnO x564).bind fun _ => (if ((bAnd (shR x613 x564) 1) == 1) = true then ((idxL p0_g_Rows x564).bind fun x614 => (if (decide (x614 < 0)) = true then S_spec_IsGraph_j7 F x564 true else ((idxL p0_g_Rows x564).bind fun x615 => ((nnO p0_g_Size).bind fun _ => (if (decide ((shL 1 p0_g_Size) ≤ x615)) = true then S_spec_IsGraph_j7 F x564 true else ((idxL p0_g_Rows x564).bind fun x616 => ((nnO x319).bind fun _ => S_spec_IsGraph_j7 F x564 ((bAnd (shR x616 x319) 1) == 0)))))))) else S_spec_IsGraph_j7 F x564 false))) else some (Sum.inr (Sum.inl ())))

def S_spec_IsGraph_j5 (F : Nat) (p0_g_Size : Int) (p0_g_Rows : List Int) (x319 : Int) (p561 : Bool) : Option ((Int) ⊕ (Unit ⊕ Bool)) :=
  (if p561 = true then some (Sum.inr (Sum.inr false)) else (loopN (σ := Int) (β := (Unit ⊕ Bool)) (fun s => S_spec_IsGraph_l6 F p0_g_Size p0_g_Rows x319 s) F 0).bind (fun b => (match b with | .inl o => S_spec_IsGraph_j4 F x319 | .inr o => some (Sum.inr (Sum.inr o)))))

def S_spec_IsGraph_l3 (F : Nat) (p0_g_Size : Int) (p0_g_Rows : List Int) (x319 : Int) : Option ((Int) ⊕ (Unit ⊕ Bool)) :=
  (if (decide (x319 < p0_g_Size)) = true then ((idxL p0_g_Rows x319).bind fun x617 => (if (decide (x617 < 0)) = true then S_spec_IsGraph_j5 F p0_g_Size p0_g_Rows x319 true else ((idxL p0_g_Rows x319).bind fun x618 => ((nnO p0_g_Size).bind fun _ => (if (decide ((shL 1 p0_g_Size) ≤ x618)) = true then S_spec_IsGraph_j5 F p0_g_Size p0_g_Rows x319 true else ((idxL p0_g_Rows x319).bind fun x619 => ((nnO x319).bind fun _ => S_spec_IsGraph_j5 F p0_g_Size p0_g_Rows x319 ((bAnd (shR x619 x319) 1) == 1)))))))) else some (Sum.inr (Sum.inl ())))

def S_spec_IsGraph_j1 (F : Nat) (p0_g_Size : Int) (p0_g_Rows : List Int) (p12 : Bool) : Option (Bool) :=
  (if p12 = true then some false else (loopN (σ := Int) (β := (Unit ⊕ Bool)) (fun s => S_spec_IsGraph_l3 F p0_g_Size p0_g_Rows s) F 0).bind (fun b => (match b with | .inl o => S_spec_IsGraph_j2 F | .inr o => some o)))

def S_spec_IsGraph (F : Nat) (p0_g_Size : Int) (p0_g_Rows : List Int) : Option (Bool) :=
  ((S_spec_l1In F p0_g_Size 1 7).bind fun r620 => (if (!r620) = true then S_spec_IsGraph_j1 F p0_g_Size p0_g_Rows true else S_spec_IsGraph_j1 F p0_g_Size p0_g_Rows ((p0_g_Rows.length : Int) != p0_g_Size)))

def S_spec_IsSet_j1 (F : Nat) (p6 : Bool) : Option (Bool) :=
  some p6

def S_spec_IsSet (F : Nat) (p0_g_Size : Int) (p0_g_Rows : List Int) (p1_set : Int) : Option (Bool) :=
  ((S_spec_IsGraph F p0_g_Size p0_g_Rows).bind fun r7 => (if r7 = true then (if (decide ((0 : Int) ≤ p1_set)) = true then ((nnO p0_g_Size).bind fun _ => S_spec_IsSet_j1 F (decide (p1_set < (shL 1 p0_g_Size)))) else S_spec_IsSet_j1 F false) else S_spec_IsSet_j1 F false))

def S_impl_ListOf_j1 (F : Nat) (l54 : List Int) : Option ((List (Int))) :=
  some l54

def S_impl_ListOf_j3 (F : Nat) (x59 : Int) (l87 : List Int) : Option (((List Int) × Int) ⊕ (((List Int)))) :=
  some (Sum.inl (l87, (IntKind.i64.wrap (x59 + 1))))

def S_impl_ListOf_l2 (F : Nat) (p0_set : Int) (l58 : List Int) (x59 : Int) : Option (((List Int) × Int) ⊕ (((List Int)))) :=
  (if (decide (x59 < 7)) = true then ((S_impl_has F p0_set x59).bind fun r91 => (if r91 = true then ((catO l58.length ([x59] : List (Int)).length).bind fun _ => S_impl_ListOf_j3 F x59 (l58 ++ ([x59] : List (Int)))) else S_impl_ListOf_j3 F x59 l58)) else some (Sum.inr l58))

def S_impl_ListOf (F : Nat) (p0_set : Int) : Option ((List (Int))) :=
  ((S_impl_within F p0_set 0 127).bind fun r12 => (if (!r12) = true then some ([] : List (Int)) else (loopN (σ := ((List Int) × Int)) (β := (((List Int)))) (fun s => S_impl_ListOf_l2 F p0_set s.1 s.2) F (([] : List (Int)), 0)).bind (fun b => S_impl_ListOf_j1 F b)))

def S_impl_CountSet (F : Nat) (p0_set : Int) : Option (Int) :=
  ((S_impl_ListOf F p0_set).bind fun r5 => some (r5.length : Int))

def S_spec_l3Fine (F : Nat) (p0_set : Int) : Option (Bool) :=
  ((S_spec_l1In F p0_set 0 127).bind fun r4 => some r4)

def S_spec_ListOf_j1 (F : Nat) (l47 : List Int) : Option ((List (Int))) :=
  some l47

def S_spec_ListOf_j4 (F : Nat) (x52 : Int) (l84 : List Int) : Option (((List Int) × Int) ⊕ (((List Int)))) :=
  some (Sum.inl (l84, (IntKind.i64.wrap (x52 + 1))))

def S_spec_ListOf_j3 (F : Nat) (p0_set : Int) (l51 : List Int) (x52 : Int) (p78 : Bool) : Option (((List Int) × Int) ⊕ (((List Int)))) :=
  (if p78 = true then ((nnO x52).bind fun _ => (if ((bAnd (shR p0_set x52) 1) == 1) = true then ((catO l51.length ([x52] : List (Int)).length).bind fun _ => S_spec_ListOf_j4 F x52 (l51 ++ ([x52] : List (Int)))) else S_spec_ListOf_j4 F x52 l51)) else some (Sum.inr l51))

def S_spec_ListOf_l2 (F : Nat) (p0_set : Int) (l51 : List Int) (x52 : Int) : Option (((List Int) × Int) ⊕ (((List Int)))) :=
  (if (decide (x52 < 7)) = true then ((S_spec_l3Fine F p0_set).bind fun r88 => S_spec_ListOf_j3 F p0_set l51 x52 r88) else S_spec_ListOf_j3 F p0_set l51 x52 false)

def S_spec_ListOf (F : Nat) (p0_set : Int) : Option ((List (Int))) :=
  (loopN (σ := ((List Int) × Int)) (β := (((List Int)))) (fun s => S_spec_ListOf_l2 F p0_set s.1 s.2) F (([] : List (Int)), 0)).bind (fun b => S_spec_ListOf_j1 F b)

def S_spec_CountSet (F : Nat) (p0_set : Int) : Option (Int) :=
  ((S_spec_ListOf F p0_set).bind fun r5 => some (r5.length : Int))

def S_impl_FormatInt (F : Nat) (p0_n : Int) : Option ((List UInt8)) :=
  ((S_strconv_Itoa F p0_n).bind fun r4 => some r4)

def S_impl_digits_j1 (F : Nat) (s29 : List UInt8) : Option ((List UInt8)) :=
  some s29

def S_impl_digits_l2 (F : Nat) (p0_l : List Int) (s32 : List UInt8) (x33 : Int) : Option (((List UInt8) × Int) ⊕ (((List UInt8)))) :=
  (if (decide (x33 < (p0_l.length : Int))) = true then ((idxL p0_l x33).bind fun x54 => ((S_impl_FormatInt F x54).bind fun r55 => ((catO s32.length r55.length).bind fun _ => some (Sum.inl ((s32 ++ r55), (IntKind.i64.wrap (x33 + 1))))))) else some (Sum.inr s32))

def S_impl_digits (F : Nat) (p0_l : List Int) : Option ((List UInt8)) :=
  (loopN (σ := ((List UInt8) × Int)) (β := (((List UInt8)))) (fun s => S_impl_digits_l2 F p0_l s.1 s.2) F (([] : List UInt8), 0)).bind (fun b => S_impl_digits_j1 F b)

def S_impl_FormatSet (F : Nat) (p0_set : Int) : Option ((List UInt8)) :=
  (if (p0_set == 0) = true then some ([45] : List UInt8) else ((S_impl_ListOf F p0_set).bind fun r11 => ((S_impl_digits F r11).bind fun r13 => some r13)))

def S_spec_FormatInt_j1 (F : Nat) (p0_n : Int) (s34 : List UInt8) : Option ((List UInt8)) :=
  (if (decide (p0_n < 0)) = true then ((catO ([45] : List UInt8).length s34.length).bind fun _ => some (([45] : List UInt8) ++ s34)) else some s34)

def S_spec_FormatInt_j3 (F : Nat) (x41 : Int) (s42 : List UInt8) (x60 : Int) : Option ((Int × (List UInt8)) ⊕ (((List UInt8)))) :=
  ((catO (u8s ([(IntKind.u8.wrap (IntKind.i64.wrap (48 + x60)))] : List (Int))).length s42.length).bind fun _ => some (Sum.inl ((IntKind.i64.wrap (x41.tdiv 10)), ((u8s ([(IntKind.u8.wrap (IntKind.i64.wrap (48 + x60)))] : List (Int))) ++ s42))))

def S_spec_FormatInt_l2 (F : Nat) (x41 : Int) (s42 : List UInt8) : Option ((Int × (List UInt8)) ⊕ (((List UInt8)))) :=
  (if (x41 != 0) = true then (if (decide ((x41.tmod 10) < 0)) = true then S_spec_FormatInt_j3 F x41 s42 (IntKind.i64.wrap (0 - (x41.tmod 10))) else S_spec_FormatInt_j3 F x41 s42 (x41.tmod 10)) else some (Sum.inr s42))

def S_spec_FormatInt (F : Nat) (p0_n : Int) : Option ((List UInt8)) :=
  (if (p0_n == 0) = true then some ([48] : List UInt8) else (loopN (σ := (Int × (List UInt8))) (β := (((List UInt8)))) (fun s => S_spec_FormatInt_l2 F s.1 s.2) F (p0_n, ([] : List UInt8))).bind (fun b => S_spec_FormatInt_j1 F p0_n b))

def S_spec_FormatSet_j2 (F : Nat) (s28 : List UInt8) (p37 : Bool) : Option ((List UInt8)) :=
  (if p37 = true then some ([45] : List UInt8) else some s28)

def S_spec_FormatSet_j1 (F : Nat) (p0_set : Int) (s28 : List UInt8) : Option ((List UInt8)) :=
  (if (s28 == ([] : List UInt8)) = true then ((S_spec_l3Fine F p0_set).bind fun r40 => S_spec_FormatSet_j2 F s28 r40) else S_spec_FormatSet_j2 F s28 false)

def S_spec_FormatSet_l3 (F : Nat) (r5 : (List (Int))) (s42 : List UInt8) (x43 : Int) : Option (((List UInt8) × Int) ⊕ (((List UInt8)))) :=
  (if (decide (x43 < (r5.length : Int))) = true then ((idxL r5 x43).bind fun x58 => ((S_spec_FormatInt F x58).bind fun r59 => ((catO s42.length r59.length).bind fun _ => some (Sum.inl ((s42 ++ r59), (IntKind.i64.wrap (x43 + 1))))))) else some (Sum.inr s42))

def S_spec_FormatSet (F : Nat) (p0_set : Int) : Option ((List UInt8)) :=
  ((S_spec_ListOf F p0_set).bind fun r5 => (loopN (σ := ((List UInt8) × Int)) (β := (((List UInt8)))) (fun s => S_spec_FormatSet_l3 F r5 s.1 s.2) F (([] : List UInt8), 0)).bind (fun b => S_spec_FormatSet_j1 F p0_set b))

def S_impl_neighbors_j1 (F : Nat) (x35 : Int) : Option (Int) :=
  some x35

def S_impl_neighbors_l2 (F : Nat) (p0_g_Rows : List Int) (r40 : (List (Int))) (x42 : Int) (x43 : Int) : Option ((Int × Int) ⊕ (Int)) :=
  (if (decide (x43 < (r40.length : Int))) = true then ((idxL r40 x43).bind fun x64 => ((idxL p0_g_Rows x64).bind fun x65 => some (Sum.inl ((bOr x42 x65), (IntKind.i64.wrap (x43 + 1)))))) else some (Sum.inr x42))

def S_impl_neighbors (F : Nat) (p0_g_Size : Int) (p0_g_Rows : List Int) (p1_set : Int) : Option (Int) :=
  ((S_impl_ListOf F p1_set).bind fun r40 => (loopN (σ := (Int × Int)) (β := Int) (fun s => S_impl_neighbors_l2 F p0_g_Rows r40 s.1 s.2) F (0, 0)).bind (fun b => S_impl_neighbors_j1 F b))

def S_impl_AroundSet (F : Nat) (p0_g_Size : Int) (p0_g_Rows : List Int) (p1_set : Int) : Option (Int) :=
  ((S_impl_IsSet F p0_g_Size p0_g_Rows p1_set).bind fun r11 => (if (!r11) = true then some 0 else ((S_impl_neighbors F p0_g_Size p0_g_Rows p1_set).bind fun r15 => some (bOr p1_set r15))))

def S_spec_AroundSet_j1 (F : Nat) (x36 : Int) : Option (Int) :=
  some x36

def S_spec_AroundSet_j3 (F : Nat) (x40 : Int) (x56 : Int) : Option ((Int × Int) ⊕ (Int)) :=
  some (Sum.inl (x56, (IntKind.i64.wrap (x40 + 1))))

def S_spec_AroundSet_l2 (F : Nat) (p0_g_Size : Int) (p0_g_Rows : List Int) (p1_set : Int) (x39 : Int) (x40 : Int) : Option ((Int × Int) ⊕ (Int)) :=
  (if (decide (x40 < p0_g_Size)) = true then ((nnO x40).bind fun _ => (if ((bAnd (shR p1_set x40) 1) == 1) = true then ((idxL p0_g_Rows x40).bind fun x58 => S_spec_AroundSet_j3 F x40 (bOr x39 x58)) else S_spec_AroundSet_j3 F x40 x39)) else some (Sum.inr x39))

def S_spec_AroundSet (F : Nat) (p0_g_Size : Int) (p0_g_Rows : List Int) (p1_set : Int) : Option (Int) :=
  ((S_spec_IsSet F p0_g_Size p0_g_Rows p1_set).bind fun r11 => (if (!r11) = true then some 0 else (loopN (σ := (Int × Int)) (β := Int) (fun s => S_spec_AroundSet_l2 F p0_g_Size p0_g_Rows p1_set s.1 s.2) F (p1_set, 0)).bind (fun b => S_spec_AroundSet_j1 F b)))

def S_spec_l1New_j1 (F : Nat) (x23 : Int) : Option (Int × Int) :=
  some (0, x23)

def S_spec_l1New_j3 (F : Nat) (p0_code : List Int) (x28 : Int) (x29 : Int) (p42 : Bool) : Option ((Int × Int) ⊕ (Int)) :=
  (if p42 = true then ((idxL p0_code x29).bind fun x45 => some (Sum.inl ((bAnd (IntKind.i64.wrap ((IntKind.i64.wrap ((IntKind.i64.wrap (x28 * 131)) + (IntKind.i64.wrap x45))) + 7)) 1073741823), (IntKind.i64.wrap (x29 + 1))))) else some (Sum.inr x28))

def S_spec_l1New_l2 (F : Nat) (p0_code : List Int) (x28 : Int) (x29 : Int) : Option ((Int × Int) ⊕ (Int)) :=
  (if (decide (x29 < (p0_code.length : Int))) = true then S_spec_l1New_j3 F p0_code x28 x29 (decide (x29 < 4000)) else S_spec_l1New_j3 F p0_code x28 x29 false)

def S_spec_l1New (F : Nat) (p0_code : List Int) : Option (Int × Int) :=
  (loopN (σ := (Int × Int)) (β := Int) (fun s => S_spec_l1New_l2 F p0_code s.1 s.2) F ((IntKind.i64.wrap (10101 + (p0_code.length : Int))), 0)).bind (fun b => S_spec_l1New_j1 F b)

def S_spec_l1Byte_j1 (F : Nat) (p0_c_h : Int) (x9 : Int) (x10 : Int) : Option (Int × Int × Int) :=
  some (x9, x10, (IntKind.i64.wrap ((IntKind.i64.wrap (p0_c_h * 6364136223846793005)) + 1442695040888963407)))

def S_spec_l1Byte (F : Nat) (p0_c_b : List Int) (p0_c_i : Int) (p0_c_h : Int) : Option (Int × Int × Int) :=
  (if (decide (p0_c_i < (p0_c_b.length : Int))) = true then ((idxL p0_c_b p0_c_i).bind fun x15 => S_spec_l1Byte_j1 F p0_c_h (bAnd (IntKind.i64.wrap ((bAnd (bXor (shR (IntKind.i64.wrap ((IntKind.i64.wrap (p0_c_h * 6364136223846793005)) + 1442695040888963407)) 33) (shR (IntKind.i64.wrap ((IntKind.i64.wrap (p0_c_h * 6364136223846793005)) + 1442695040888963407)) 45)) 255) + (IntKind.i64.wrap x15))) 255) (IntKind.i64.wrap (p0_c_i + 1))) else S_spec_l1Byte_j1 F p0_c_h (bAnd (bXor (shR (IntKind.i64.wrap ((IntKind.i64.wrap (p0_c_h * 6364136223846793005)) + 1442695040888963407)) 33) (shR (IntKind.i64.wrap ((IntKind.i64.wrap (p0_c_h * 6364136223846793005)) + 1442695040888963407)) 45)) 255) p0_c_i)

def S_spec_l1Below (F : Nat) (p0_c_b : List Int) (p0_c_i : Int) (p0_c_h : Int) (p1_n : Int) : Option (Int × Int × Int) :=
  (if (decide (p1_n ≤ 0)) = true then some (0, p0_c_i, p0_c_h) else (if (decide (p1_n ≤ 256)) = true then ((S_spec_l1Byte F p0_c_b p0_c_i p0_c_h).bind fun r15 => ((nzO p1_n).bind fun _ => some ((r15.1.tmod p1_n), r15.2.1, r15.2.2))) else ((S_spec_l1Byte F p0_c_b p0_c_i p0_c_h).bind fun r18 => ((S_spec_l1Byte F p0_c_b r18.2.1 r18.2.2).bind fun r21 => ((S_spec_l1Byte F p0_c_b r21.2.1 r21.2.2).bind fun r24 => ((S_spec_l1Byte F p0_c_b r24.2.1 r24.2.2).bind fun r27 => ((nzO p1_n).bind fun _ => some (((IntKind.i64.wrap ((IntKind.i64.wrap ((IntKind.i64.wrap ((IntKind.i64.wrap (r18.1 * 16777216)) + (IntKind.i64.wrap (r21.1 * 65536)))) + (IntKind.i64.wrap (r24.1 * 256)))) + r27.1)).tmod p1_n), r27.2.1, r27.2.2))))))))

def S_spec_l1PickInt (F : Nat) (p0_c_b : List Int) (p0_c_i : Int) (p0_c_h : Int) (p1_list : List Int) : Option (Int × Int × Int) :=
  ((S_spec_l1Below F p0_c_b p0_c_i p0_c_h (p1_list.length : Int)).bind fun r5 => ((idxL p1_list r5.1).bind fun x6 => some (x6, r5.2.1, r5.2.2)))

def S_spec_l2Edge (F : Nat) (p0_g_Size : Int) (p0_g_Rows : List Int) (p1_v : Int) (p2_w : Int) : Option (Bool) :=
  ((idxL p0_g_Rows p1_v).bind fun x6 => ((nnO p2_w).bind fun _ => some ((bAnd (shR x6 p2_w) 1) == 1)))

def S_spec_l2Copy (F : Nat) (p0_g_Size : Int) (p0_g_Rows : List Int) : Option (Int × (List (Int))) :=
  ((catO ([] : List (Int)).length p0_g_Rows.length).bind fun _ => some (p0_g_Size, (([] : List (Int)) ++ p0_g_Rows)))

def S_spec_l2Pair_j1 (F : Nat) (p6 : Bool) : Option (Bool) :=
  some p6

def S_spec_l2Pair (F : Nat) (p0_g_Size : Int) (p0_g_Rows : List Int) (p1_v : Int) (p2_w : Int) : Option (Bool) :=
  ((S_spec_IsGraph F p0_g_Size p0_g_Rows).bind fun r7 => (if r7 = true then (if (decide ((0 : Int) ≤ p1_v)) = true then (if (decide ((0 : Int) ≤ p2_w)) = true then (if (decide (p1_v < p0_g_Size)) = true then (if (decide (p2_w < p0_g_Size)) = true then S_spec_l2Pair_j1 F (p1_v != p2_w) else S_spec_l2Pair_j1 F false) else S_spec_l2Pair_j1 F false) else S_spec_l2Pair_j1 F false) else S_spec_l2Pair_j1 F false) else S_spec_l2Pair_j1 F false))

def S_spec_AddEdge_j1 (F : Nat) (p1_v : Int) (p2_w : Int) (r10 : Int × (List (Int))) (p24 : Bool) : Option (Int × (List (Int)) × Bool) :=
  (if p24 = true then some (r10.1, r10.2, false) else ((idxL r10.2 p1_v).bind fun x29 => ((nnO p2_w).bind fun _ => ((idxL r10.2 p1_v).bind fun x30 => ((idxL (r10.2.set (p1_v.toNat) (IntKind.i64.wrap (x29 + (shL 1 p2_w)))) p2_w).bind fun x34 => ((nnO p1_v).bind fun _ => ((idxL (r10.2.set (p1_v.toNat) (IntKind.i64.wrap (x29 + (shL 1 p2_w)))) p2_w).bind fun x35 => some (r10.1, ((r10.2.set (p1_v.toNat) (IntKind.i64.wrap (x29 + (shL 1 p2_w)))).set (p2_w.toNat) (IntKind.i64.wrap (x34 + (shL 1 p1_v)))), true))))))))

def S_spec_AddEdge (F : Nat) (p0_g_Size : Int) (p0_g_Rows : List Int) (p1_v : Int) (p2_w : Int) : Option (Int × (List (Int)) × Bool) :=
  ((S_spec_l2Copy F p0_g_Size p0_g_Rows).bind fun r10 => ((S_spec_l2Pair F p0_g_Size p0_g_Rows p1_v p2_w).bind fun r37 => (if (!r37) = true then S_spec_AddEdge_j1 F p1_v p2_w r10 true else ((S_spec_l2Edge F p0_g_Size p0_g_Rows p1_v p2_w).bind fun r38 => S_spec_AddEdge_j1 F p1_v p2_w r10 r38))))

def S_spec_NamedGraph_j2 (F : Nat) (x1000 : Int) (l1002 : List Int) (p1008 : Bool) : Option (Int × (List (Int)) × Bool) :=
  (if p1008 = true then some (0, ([] : List (Int)), false) else some (x1000, l1002, true))

def S_spec_NamedGraph_j1 (F : Nat) (p0_name : List UInt8) (p1_n : Int) (x1000 : Int) (l1002 : List Int) : Option (Int × (List (Int)) × Bool) :=
  (if (p1_n == 1) = true then (if (p0_name != ([112, 97, 116, 104] : List UInt8)) = true then (if (p0_name != ([99, 121, 99, 108, 101] : List UInt8)) = true then (if (p0_name != ([99, 111, 109, 112, 108, 101, 116, 101] : List UInt8)) = true then (if (p0_name != ([115, 116, 97, 114] : List UInt8)) = true then (if (p0_name != ([119, 104, 101, 101, 108] : List UInt8)) = true then S_spec_NamedGraph_j2 F x1000 l1002 (p0_name != ([101, 109, 112, 116, 121] : List UInt8)) else S_spec_NamedGraph_j2 F x1000 l1002 false) else S_spec_NamedGraph_j2 F x1000 l1002 false) else S_spec_NamedGraph_j2 F x1000 l1002 false) else S_spec_NamedGraph_j2 F x1000 l1002 false) else S_spec_NamedGraph_j2 F x1000 l1002 false) else S_spec_NamedGraph_j2 F x1000 l1002 false)

def S_spec_NamedGraph_j4 (F : Nat) (x1341 : Int) (x1830 : Int) (l1832 : List Int) : Option ((Int × (List Int) × Int) ⊕ ((Int × (List Int)) ⊕ (Int × (List (Int)) × Bool))) :=
  some (Sum.inl (x1830, l1832, (IntKind.i64.wrap (x1341 + 1))))

def S_spec_NamedGraph_j6 (F : Nat) (x1889 : Int) (x1967 : Int) (l1969 : List Int) : Option ((Int × (List Int) × Int) ⊕ ((Int × (List Int)) ⊕ (Int × (List (Int)) × Bool))) :=
  some (Sum.inl (x1967, l1969, (IntKind.i64.wrap (x1889 + 1))))

def S_spec_NamedGraph_j7 (F : Nat) (x1341 : Int) (x1886 : Int) (l1888 : List Int) (x1889 : Int) (p1980 : Bool) : Option ((Int × (List Int) × Int) ⊕ ((Int × (List Int)) ⊕ (Int × (List (Int)) × Bool))) :=
  (if p1980 = true then ((S_spec_AddEdge F x1886 l1888 x1341 x1889).bind fun r1982 => S_spec_NamedGraph_j6 F x1889 r1982.1 r1982.2.1) else S_spec_NamedGraph_j6 F x1889 x1886 l1888)

def S_spec_NamedGraph_l5 (F : Nat) (p0_name : List UInt8) (p1_n : Int) (x1341 : Int) (x1886 : Int) (l1888 : List Int) (x1889 : Int) : Option ((Int × (List Int) × Int) ⊕ ((Int × (List Int)) ⊕ (Int × (List (Int)) × Bool))) :=
  (if (decide (x1889 < p1_n)) = true then (if (p0_name == ([112, 97, 116, 104] : List UInt8)) = true then S_spec_NamedGraph_j7 F x1341 x1886 l1888 x1889 (x1889 == (IntKind.i64.wrap (x1341 + 1))) else (if (p0_name == ([99, 121, 99, 108, 101] : List UInt8)) = true then (if (x1889 == (IntKind.i64.wrap (x1341 + 1))) = true then S_spec_NamedGraph_j7 F x1341 x1886 l1888 x1889 true else (if (x1341 == 0) = true then S_spec_NamedGraph_j7 F x1341 x1886 l1888 x1889 (x1889 == (IntKind.i64.wrap (p1_n - 1))) else S_spec_NamedGraph_j7 F x1341 x1886 l1888 x1889 false)) else (if (p0_name == ([99, 111, 109, 112, 108, 101, 116, 101] : List UInt8)) = true then S_spec_NamedGraph_j7 F x1341 x1886 l1888 x1889 true else (if (p0_name == ([115, 116, 97, 114] : List UInt8)) = true then S_spec_NamedGraph_j7 F x1341 x1886 l1888 x1889 (x1341 == 0) else (if (p0_name == ([119, 104, 101, 101, 108] : List UInt8)) = true then (if (x1341 == 0) = true then S_spec_NamedGraph_j7 F x1341 x1886 l1888 x1889 true else (if (x1889 == (IntKind.i64.wrap (x1341 + 1))) = true then S_spec_NamedGraph_j7 F x1341 x1886 l1888 x1889 true else (if (x1341 == 1) = true then S_spec_NamedGraph_j7 F x1341 x1886 l1888 x1889 (x1889 == (IntKind.i64.wrap (p1_n - 1))) else S_spec_NamedGraph_j7 F x1341 x1886 l1888 x1889 false))) else (if (p0_name == ([101, 109, 112, 116, 121] : List UInt8)) = true then S_spec_NamedGraph_j7 F x1341 x1886 l1888 x1889 false else some (Sum.inr (Sum.inr (0, ([] : List (Int)), false))))))))) else some (Sum.inr (Sum.inl (x1886, l1888))))

def S_spec_NamedGraph_l3 (F : Nat) (p0_name : List UInt8) (p1_n : Int) (x1338 : Int) (l1340 : List Int) (x1341 : Int) : Option ((Int × (List Int) × Int) ⊕ ((Int × (List Int)) ⊕ (Int × (List (Int)) × Bool))) :=
  (if (decide (x1341 < p1_n)) = true then (loopN (σ := (Int × (List Int) × Int)) (β := ((Int × (List Int)) ⊕ (Int × (List (Int)) × Bool))) (fun s => S_spec_NamedGraph_l5 F p0_name p1_n x1341 s.1 s.2.1 s.2.2) F (x1338, l1340, (IntKind.i64.wrap (x1341 + 1)))).bind (fun b => (match b with | .inl o => S_spec_NamedGraph_j4 F x1341 o.1 o.2 | .inr o => some (Sum.inr (Sum.inr o)))) else some (Sum.inr (Sum.inl (x1338, l1340))))

def S_spec_NamedGraph (F : Nat) (p0_name : List UInt8) (p1_n : Int) : Option (Int × (List (Int)) × Bool) :=
  ((S_spec_l1In F p1_n 1 7).bind fun r11 => (if (!r11) = true then some (0, ([] : List (Int)), false) else ((mkO p1_n).bind fun _ => (loopN (σ := (Int × (List Int) × Int)) (β := ((Int × (List Int)) ⊕ (Int × (List (Int)) × Bool))) (fun s => S_spec_NamedGraph_l3 F p0_name p1_n s.1 s.2.1 s.2.2) F (p1_n, (List.replicate p1_n.toNat (0 : Int)), 0)).bind (fun b => (match b with | .inl o => S_spec_NamedGraph_j1 F p0_name p1_n o.1 o.2 | .inr o => some o)))))

def S_spec_l1Once (F : Nat) (p0_c_b : List Int) (p0_c_i : Int) (p0_c_h : Int) (p1_n : Int) : Option (Bool × Int × Int) :=
  ((S_spec_l1Below F p0_c_b p0_c_i p0_c_h p1_n).bind fun r4 => some ((r4.1 == 0), r4.2.1, r4.2.2))

def S_spec_l1Pick (F : Nat) (p0_c_b : List Int) (p0_c_i : Int) (p0_c_h : Int) (p1_list : List (List UInt8)) : Option ((List UInt8) × Int × Int) :=
  ((S_spec_l1Below F p0_c_b p0_c_i p0_c_h (p1_list.length : Int)).bind fun r5 => ((idxL p1_list r5.1).bind fun x6 => some (x6, r5.2.1, r5.2.2)))

def S_spec_l2Random_j1 (F : Nat) (x435 : Int) (l437 : List Int) (x438 : Int) (x439 : Int) : Option (Int × (List (Int)) × Int × Int) :=
  some (x435, l437, x438, x439)

def S_spec_l2Random_j3 (F : Nat) (x587 : Int) (x796 : Int) (x797 : Int) (x798 : Int) (l800 : List Int) : Option ((Int × Int × Int × (List Int) × Int) ⊕ ((Int × (List Int) × Int × Int))) :=
  some (Sum.inl (x796, x797, x798, l800, (IntKind.i64.wrap (x587 + 1))))

def S_spec_l2Random_j5 (F : Nat) (x827 : Int) (x856 : Int) (x857 : Int) (x858 : Int) (l860 : List Int) : Option ((Int × Int × Int × (List Int) × Int) ⊕ ((Int × Int × Int × (List Int)))) :=
  some (Sum.inl (x856, x857, x858, l860, (IntKind.i64.wrap (x827 + 1))))

def S_spec_l2Random_l4 (F : Nat) (p0_c_b : List Int) (p1_n : Int) (p2_odd : Int) (x587 : Int) (x822 : Int) (x823 : Int) (x824 : Int) (l826 : List Int) (x827 : Int) : Option ((Int × Int × Int × (List Int) × Int) ⊕ ((Int × Int × Int × (List Int)))) :=
  (if (decide (x827 < p1_n)) = true then ((S_spec_l1Below F p0_c_b x822 x823 10).bind fun r863 => (if (decide (r863.1 < p2_odd)) = true then ((S_spec_AddEdge F x824 l826 x587 x827).bind fun r864 => S_spec_l2Random_j5 F x827 r863.2.1 r863.2.2 r864.1 r864.2.1) else S_spec_l2Random_j5 F x827 r863.2.1 r863.2.2 x824 l826)) else some (Sum.inr (x822, x823, x824, l826)))

def S_spec_l2Random_l2 (F : Nat) (p0_c_b : List Int) (p1_n : Int) (p2_odd : Int) (x582 : Int) (x583 : Int) (x584 : Int) (l586 : List Int) (x587 : Int) : Option ((Int × Int × Int × (List Int) × Int) ⊕ ((Int × (List Int) × Int × Int))) :=
  (if (decide (x587 < p1_n)) = true then (loopN (σ := (Int × Int × Int × (List Int) × Int)) (β := ((Int × Int × Int × (List Int)))) (fun s => S_spec_l2Random_l4 F p0_c_b p1_n p2_odd x587 s.1 s.2.1 s.2.2.1 s.2.2.2.1 s.2.2.2.2) F (x582, x583, x584, l586, (IntKind.i64.wrap (x587 + 1)))).bind (fun b => S_spec_l2Random_j3 F x587 b.1 b.2.1 b.2.2.1 b.2.2.2) else some (Sum.inr (x584, l586, x582, x583)))

def S_spec_l2Random (F : Nat) (p0_c_b : List Int) (p0_c_i : Int) (p0_c_h : Int) (p1_n : Int) (p2_odd : Int) : Option (Int × (List (Int)) × Int × Int) :=
  ((mkO p1_n).bind fun _ => (loopN (σ := (Int × Int × Int × (List Int) × Int)) (β := ((Int × (List Int) × Int × Int))) (fun s => S_spec_l2Random_l2 F p0_c_b p1_n p2_odd s.1 s.2.1 s.2.2.1 s.2.2.2.1 s.2.2.2.2) F (p0_c_i, p0_c_h, p1_n, (List.replicate p1_n.toNat (0 : Int)), 0)).bind (fun b => S_spec_l2Random_j1 F b.1 b.2.1 b.2.2.1 b.2.2.2))

def S_spec_l2Draw_j1 (F : Nat) (x79 : Int) (l81 : List Int) (x82 : Int) (x83 : Int) : Option (Int × (List (Int)) × Int × Int) :=
  some (x79, l81, x82, x83)

def S_spec_l2Draw (F : Nat) (p0_c_b : List Int) (p0_c_i : Int) (p0_c_h : Int) : Option (Int × (List (Int)) × Int × Int) :=
  ((S_spec_l1Below F p0_c_b p0_c_i p0_c_h 6).bind fun r6 => ((S_spec_l1Below F p0_c_b r6.2.1 r6.2.2 4).bind fun r54 => (if (r54.1 == 0) = true then ((S_spec_l1Pick F p0_c_b r54.2.1 r54.2.2 ([([112, 97, 116, 104] : List UInt8), ([99, 121, 99, 108, 101] : List UInt8), ([99, 111, 109, 112, 108, 101, 116, 101] : List UInt8), ([115, 116, 97, 114] : List UInt8), ([119, 104, 101, 101, 108] : List UInt8)] : List (List UInt8))).bind fun r63 => ((S_spec_NamedGraph F r63.1 (IntKind.i64.wrap (1 + r6.1))).bind fun r64 => ((S_spec_l1Below F p0_c_b r63.2.1 r63.2.2 (IntKind.i64.wrap (1 + r6.1))).bind fun r69 => ((S_spec_l1Below F p0_c_b r69.2.1 r69.2.2 (IntKind.i64.wrap (1 + r6.1))).bind fun r72 => ((S_spec_l1Once F p0_c_b r72.2.1 r72.2.2 2).bind fun r87 => (if r87.1 = true then ((S_spec_AddEdge F r64.1 r64.2.1 r69.1 r72.1).bind fun r88 => S_spec_l2Draw_j1 F r88.1 r88.2.1 r87.2.1 r87.2.2) else S_spec_l2Draw_j1 F r64.1 r64.2.1 r87.2.1 r87.2.2)))))) else (if (r54.1 == 1) = true then ((S_spec_l2Random F p0_c_b r54.2.1 r54.2.2 (IntKind.i64.wrap (1 + r6.1)) 7).bind fun r94 => some (r94.1, r94.2.1, r94.2.2.1, r94.2.2.2)) else ((S_spec_l2Random F p0_c_b r54.2.1 r54.2.2 (IntKind.i64.wrap (1 + r6.1)) 4).bind fun r99 => some (r99.1, r99.2.1, r99.2.2.1, r99.2.2.2))))))

def S_spec_l2Any_j1 (F : Nat) (x22 : Int) (l23 : List Int) (x24 : Int) (x25 : Int) : Option (Int × (List (Int)) × Int × Int) :=
  some (x22, l23, x24, x25)

def S_spec_l2Any (F : Nat) (p0_c_b : List Int) (p0_c_i : Int) (p0_c_h : Int) : Option (Int × (List (Int)) × Int × Int) :=
  ((S_spec_l2Draw F p0_c_b p0_c_i p0_c_h).bind fun r8 => ((S_spec_l1Below F p0_c_b r8.2.2.1 r8.2.2.2 18).bind fun r29 => (if (r29.1 == 0) = true then ((S_spec_l1PickInt F p0_c_b r29.2.1 r29.2.2 ([0, (-1), 8, 3] : List (Int))).bind fun r32 => S_spec_l2Any_j1 F r32.1 r8.2.1 r32.2.1 r32.2.2) else (if (r29.1 == 1) = true then ((S_spec_l1PickInt F p0_c_b r29.2.1 r29.2.2 ([(-1), 1, 2, 128, 9223372036854775807] : List (Int))).bind fun r35 => ((idxL r8.2.1 0).bind fun x36 => S_spec_l2Any_j1 F r8.1 (r8.2.1.set ((0 : Int).toNat) r35.1) r35.2.1 r35.2.2)) else S_spec_l2Any_j1 F r8.1 r8.2.1 r29.2.1 r29.2.2))))

def S_spec_l3Set (F : Nat) (p0_c_b : List Int) (p0_c_i : Int) (p0_c_h : Int) (p1_g_Size : Int) (p1_g_Rows : List Int) : Option (Int × Int × Int) :=
  ((S_spec_l1Once F p0_c_b p0_c_i p0_c_h 16).bind fun r15 => (if r15.1 = true then ((S_spec_l1PickInt F p0_c_b r15.2.1 r15.2.2 ([(-1), 64, 127, 128, 9223372036854775807] : List (Int))).bind fun r20 => some (r20.1, r20.2.1, r20.2.2)) else ((nnO (if (if p1_g_Size < 7 then p1_g_Size else 7) > 0 then (if p1_g_Size < 7 then p1_g_Size else 7) else 0)).bind fun _ => ((S_spec_l1Below F p0_c_b r15.2.1 r15.2.2 (shL 1 (if (if p1_g_Size < 7 then p1_g_Size else 7) > 0 then (if p1_g_Size < 7 then p1_g_Size else 7) else 0))).bind fun r23 => some (r23.1, r23.2.1, r23.2.2)))))

def S_spec_l3Both (F : Nat) (p0_code : List Int) : Option (Int × (List (Int)) × Int) :=
  ((S_spec_l1New F p0_code).bind fun r7 => ((S_spec_l2Any F p0_code r7.1 r7.2).bind fun r13 => ((S_spec_l3Set F p0_code r13.2.2.1 r13.2.2.2 r13.1 r13.2.1).bind fun r18 => some (r13.1, r13.2.1, r18.1))))

def S_spec_DrawIsClique (F : Nat) (p0_code : List Int) : Option (Int × (List (Int)) × Int) :=
  ((S_spec_l3Both F p0_code).bind fun r8 => some (r8.1, r8.2.1, r8.2.2))

def S_spec_ComplementOf_j1 (F : Nat) (p0_g_Size : Int) (l61 : List Int) : Option (Int × (List (Int)) × Bool) :=
  some (p0_g_Size, l61, true)

def S_spec_ComplementOf_j3 (F : Nat) (x79 : Int) (l100 : List Int) : Option (((List Int) × Int) ⊕ (((List Int)))) :=
  some (Sum.inl (l100, (IntKind.i64.wrap (x79 + 1))))

def S_spec_ComplementOf_l2 (F : Nat) (p0_g_Size : Int) (p0_g_Rows : List Int) (l78 : List Int) (x79 : Int) : Option (((List Int) × Int) ⊕ (((List Int)))) :=
  (if (decide (x79 < p0_g_Size)) = true then ((nnO p0_g_Size).bind fun _ => ((idxL p0_g_Rows x79).bind fun x101 => ((nnO x79).bind fun _ => ((catO l78.length ([(IntKind.i64.wrap ((IntKind.i64.wrap ((IntKind.i64.wrap ((shL 1 p0_g_Size) - 1)) - x101)) - (shL 1 x79)))] : List (Int)).length).bind fun _ => S_spec_ComplementOf_j3 F x79 (l78 ++ ([(IntKind.i64.wrap ((IntKind.i64.wrap ((IntKind.i64.wrap ((shL 1 p0_g_Size) - 1)) - x101)) - (shL 1 x79)))] : List (Int))))))) else some (Sum.inr l78))

def S_spec_ComplementOf (F : Nat) (p0_g_Size : Int) (p0_g_Rows : List Int) : Option (Int × (List (Int)) × Bool) :=
  ((S_spec_IsGraph F p0_g_Size p0_g_Rows).bind fun r13 => (if (!r13) = true then some (0, ([] : List (Int)), false) else (loopN (σ := ((List Int) × Int)) (β := (((List Int)))) (fun s => S_spec_ComplementOf_l2 F p0_g_Size p0_g_Rows s.1 s.2) F (([] : List (Int)), 0)).bind (fun b => S_spec_ComplementOf_j1 F p0_g_Size b)))

def S_impl_induced_j1 (F : Nat) (r9 : (List (Int))) (l507 : List Int) : Option (Int × (List (Int))) :=
  some ((r9.length : Int), l507)

def S_impl_induced_j3 (F : Nat) (x674 : Int) (l919 : List Int) : Option (((List Int) × Int) ⊕ (((List Int)))) :=
  some (Sum.inl (l919, (IntKind.i64.wrap (x674 + 1))))

def S_impl_induced_j5 (F : Nat) (x950 : Int) (l988 : List Int) : Option (((List Int) × Int) ⊕ (((List Int)))) :=
  some (Sum.inl (l988, (IntKind.i64.wrap (x950 + 1))))

def S_impl_induced_l4 (F : Nat) (p0_g_Rows : List Int) (r9 : (List (Int))) (x674 : Int) (x922 : Int) (l949 : List Int) (x950 : Int) : Option (((List Int) × Int) ⊕ (((List Int)))) :=
  (if (decide (x950 < (r9.length : Int))) = true then ((idxL r9 x950).bind fun x991 => ((idxL p0_g_Rows x922).bind fun x995 => ((S_impl_has F x995 x991).bind fun r996 => (if r996 = true then ((idxL l949 x674).bind fun x997 => ((nnO x950).bind fun _ => ((idxL l949 x674).bind fun x998 => S_impl_induced_j5 F x950 (l949.set (x674.toNat) (bOr x997 (shL 1 x950)))))) else S_impl_induced_j5 F x950 l949)))) else some (Sum.inr l949))

def S_impl_induced_l2 (F : Nat) (p0_g_Rows : List Int) (r9 : (List (Int))) (l673 : List Int) (x674 : Int) : Option (((List Int) × Int) ⊕ (((List Int)))) :=
  (if (decide (x674 < (r9.length : Int))) = true then ((idxL r9 x674).bind fun x922 => (loopN (σ := ((List Int) × Int)) (β := (((List Int)))) (fun s => S_impl_induced_l4 F p0_g_Rows r9 x674 x922 s.1 s.2) F (l673, 0)).bind (fun b => S_impl_induced_j3 F x674 b)) else some (Sum.inr l673))

def S_impl_induced (F : Nat) (p0_g_Size : Int) (p0_g_Rows : List Int) (p1_set : Int) : Option (Int × (List (Int))) :=
  ((S_impl_ListOf F p1_set).bind fun r9 => ((mkO (r9.length : Int)).bind fun _ => (loopN (σ := ((List Int) × Int)) (β := (((List Int)))) (fun s => S_impl_induced_l2 F p0_g_Rows r9 s.1 s.2) F ((List.replicate (r9.length : Int).toNat (0 : Int)), 0)).bind (fun b => S_impl_induced_j1 F r9 b)))

def S_impl_InducedOn_j1 (F : Nat) (p0_g_Size : Int) (p0_g_Rows : List Int) (p1_set : Int) (p14 : Bool) : Option (Int × (List (Int)) × Bool) :=
  (if p14 = true then some (0, ([] : List (Int)), false) else ((S_impl_induced F p0_g_Size p0_g_Rows p1_set).bind fun r19 => some (r19.1, r19.2, true)))

def S_impl_InducedOn (F : Nat) (p0_g_Size : Int) (p0_g_Rows : List Int) (p1_set : Int) : Option (Int × (List (Int)) × Bool) :=
  ((S_impl_IsSet F p0_g_Size p0_g_Rows p1_set).bind fun r21 => (if (!r21) = true then S_impl_InducedOn_j1 F p0_g_Size p0_g_Rows p1_set true else S_impl_InducedOn_j1 F p0_g_Size p0_g_Rows p1_set (p1_set == 0)))

def S_spec_InducedOn_j2 (F : Nat) (r19 : (List (Int))) (l565 : List Int) : Option (Int × (List (Int)) × Bool) :=
  some ((r19.length : Int), l565, true)

def S_spec_InducedOn_j4 (F : Nat) (l748 : List Int) (x749 : Int) (x1062 : Int) : Option (((List Int) × Int) ⊕ (((List Int)))) :=
  ((catO l748.length ([x1062] : List (Int)).length).bind fun _ => some (Sum.inl ((l748 ++ ([x1062] : List (Int))), (IntKind.i64.wrap (x749 + 1)))))

def S_spec_InducedOn_j6 (F : Nat) (x1067 : Int) (x1098 : Int) : Option ((Int × Int) ⊕ (Int)) :=
  some (Sum.inl (x1098, (IntKind.i64.wrap (x1067 + 1))))

def S_spec_InducedOn_l5 (F : Nat) (p0_g_Size : Int) (p0_g_Rows : List Int) (r19 : (List (Int))) (x749 : Int) (x1066 : Int) (x1067 : Int) : Option ((Int × Int) ⊕ (Int)) :=
  (if (decide (x1067 < (r19.length : Int))) = true then ((idxL r19 x749).bind fun x1103 => ((idxL r19 x1067).bind fun x1104 => ((S_spec_l2Edge F p0_g_Size p0_g_Rows x1103 x1104).bind fun r1105 => (if r1105 = true then ((nnO x1067).bind fun _ => S_spec_InducedOn_j6 F x1067 (IntKind.i64.wrap (x1066 + (shL 1 x1067)))) else S_spec_InducedOn_j6 F x1067 x1066)))) else some (Sum.inr x1066))

def S_spec_InducedOn_l3 (F : Nat) (p0_g_Size : Int) (p0_g_Rows : List Int) (r19 : (List (Int))) (l748 : List Int) (x749 : Int) : Option (((List Int) × Int) ⊕ (((List Int)))) :=
  (if (decide (x749 < (r19.length : Int))) = true then (loopN (σ := (Int × Int)) (β := Int) (fun s => S_spec_InducedOn_l5 F p0_g_Size p0_g_Rows r19 x749 s.1 s.2) F (0, 0)).bind (fun b => S_spec_InducedOn_j4 F l748 x749 b) else some (Sum.inr l748))

def S_spec_InducedOn_j1 (F : Nat) (p0_g_Size : Int) (p0_g_Rows : List Int) (p1_set : Int) (p14 : Bool) : Option (Int × (List (Int)) × Bool) :=
  (if p14 = true then some (0, ([] : List (Int)), false) else ((S_spec_ListOf F p1_set).bind fun r19 => (loopN (σ := ((List Int) × Int)) (β := (((List Int)))) (fun s => S_spec_InducedOn_l3 F p0_g_Size p0_g_Rows r19 s.1 s.2) F (([] : List (Int)), 0)).bind (fun b => S_spec_InducedOn_j2 F r19 b)))

def S_spec_InducedOn (F : Nat) (p0_g_Size : Int) (p0_g_Rows : List Int) (p1_set : Int) : Option (Int × (List (Int)) × Bool) :=
  ((S_spec_IsSet F p0_g_Size p0_g_Rows p1_set).bind fun r1106 => (if (!r1106) = true then S_spec_InducedOn_j1 F p0_g_Size p0_g_Rows p1_set true else S_spec_InducedOn_j1 F p0_g_Size p0_g_Rows p1_set (p1_set == 0)))

def S_impl_isClique_j1 (F : Nat) : Option (Bool) :=
  some true

def S_impl_isClique_l2 (F : Nat) (p0_g_Rows : List Int) (p1_set : Int) (r49 : (List (Int))) (x51 : Int) : Option ((Int) ⊕ (Unit ⊕ Bool)) :=
  (if (decide (x51 < (r49.length : Int))) = true then ((idxL r49 x51).bind fun x81 => ((idxL p0_g_Rows x81).bind fun x84 => ((nnO x81).bind fun _ => (if ((bAndNot p1_set x84) != (shL 1 x81)) = true then some (Sum.inr (Sum.inr false)) else some (Sum.inl (IntKind.i64.wrap (x51 + 1))))))) else some (Sum.inr (Sum.inl ())))

def S_impl_isClique (F : Nat) (p0_g_Size : Int) (p0_g_Rows : List Int) (p1_set : Int) : Option (Bool) :=
  ((S_impl_ListOf F p1_set).bind fun r49 => (loopN (σ := Int) (β := (Unit ⊕ Bool)) (fun s => S_impl_isClique_l2 F p0_g_Rows p1_set r49 s) F 0).bind (fun b => (match b with | .inl o => S_impl_isClique_j1 F | .inr o => some o)))

def S_impl_IsClique_j1 (F : Nat) (p7 : Bool) : Option (Bool) :=
  some p7

def S_impl_IsClique (F : Nat) (p0_g_Size : Int) (p0_g_Rows : List Int) (p1_set : Int) : Option (Bool) :=
  ((S_impl_IsSet F p0_g_Size p0_g_Rows p1_set).bind fun r8 => (if r8 = true then ((S_impl_isClique F p0_g_Size p0_g_Rows p1_set).bind fun r9 => S_impl_IsClique_j1 F r9) else S_impl_IsClique_j1 F false))

def S_spec_IsClique_j1 (F : Nat) : Option (Bool) :=
  some true

def S_spec_IsClique_j3 (F : Nat) (x46 : Int) (p72 : Bool) : Option ((Int) ⊕ (Unit ⊕ Bool)) :=
  (if p72 = true then some (Sum.inr (Sum.inr false)) else some (Sum.inl (IntKind.i64.wrap (x46 + 1))))

def S_spec_IsClique_l2 (F : Nat) (p0_g_Size : Int) (p0_g_Rows : List Int) (p1_set : Int) (x46 : Int) : Option ((Int) ⊕ (Unit ⊕ Bool)) :=
  (if (decide (x46 < p0_g_Size)) = true then ((nnO x46).bind fun _ => (if ((bAnd (shR p1_set x46) 1) == 1) = true then ((idxL p0_g_Rows x46).bind fun x74 => ((nnO x46).bind fun _ => S_spec_IsClique_j3 F x46 ((bAnd x74 p1_set) != (IntKind.i64.wrap (p1_set - (shL 1 x46)))))) else S_spec_IsClique_j3 F x46 false)) else some (Sum.inr (Sum.inl ())))

def S_spec_IsClique (F : Nat) (p0_g_Size : Int) (p0_g_Rows : List Int) (p1_set : Int) : Option (Bool) :=
  ((S_spec_IsSet F p0_g_Size p0_g_Rows p1_set).bind fun r11 => (if (!r11) = true then some false else (loopN (σ := Int) (β := (Unit ⊕ Bool)) (fun s => S_spec_IsClique_l2 F p0_g_Size p0_g_Rows p1_set s) F 0).bind (fun b => (match b with | .inl o => S_spec_IsClique_j1 F | .inr o => some o))))

def S_impl_IsIndependent_j1 (F : Nat) (p7 : Bool) : Option (Bool) :=
  some p7

def S_impl_IsIndependent (F : Nat) (p0_g_Size : Int) (p0_g_Rows : List Int) (p1_set : Int) : Option (Bool) :=
  ((S_impl_IsSet F p0_g_Size p0_g_Rows p1_set).bind fun r8 => (if r8 = true then ((S_impl_neighbors F p0_g_Size p0_g_Rows p1_set).bind fun r9 => S_impl_IsIndependent_j1 F ((bAnd r9 p1_set) == 0)) else S_impl_IsIndependent_j1 F false))

def S_spec_IsIndependent_j1 (F : Nat) : Option (Bool) :=
  some true

def S_spec_IsIndependent_j3 (F : Nat) (x46 : Int) (p72 : Bool) : Option ((Int) ⊕ (Unit ⊕ Bool)) :=
  (if p72 = true then some (Sum.inr (Sum.inr false)) else some (Sum.inl (IntKind.i64.wrap (x46 + 1))))

def S_spec_IsIndependent_l2 (F : Nat) (p0_g_Size : Int) (p0_g_Rows : List Int) (p1_set : Int) (x46 : Int) : Option ((Int) ⊕ (Unit ⊕ Bool)) :=
  (if (decide (x46 < p0_g_Size)) = true then ((nnO x46).bind fun _ => (if ((bAnd (shR p1_set x46) 1) == 1) = true then ((idxL p0_g_Rows x46).bind fun x74 => S_spec_IsIndependent_j3 F x46 ((bAnd x74 p1_set) != 0)) else S_spec_IsIndependent_j3 F x46 false)) else some (Sum.inr (Sum.inl ())))

def S_spec_IsIndependent (F : Nat) (p0_g_Size : Int) (p0_g_Rows : List Int) (p1_set : Int) : Option (Bool) :=
  ((S_spec_IsSet F p0_g_Size p0_g_Rows p1_set).bind fun r11 => (if (!r11) = true then some false else (loopN (σ := Int) (β := (Unit ⊕ Bool)) (fun s => S_spec_IsIndependent_l2 F p0_g_Size p0_g_Rows p1_set s) F 0).bind (fun b => (match b with | .inl o => S_spec_IsIndependent_j1 F | .inr o => some o))))

def S_spec_EqualGraphs_j2 (F : Nat) : Option (Bool) :=
  some true

def S_spec_EqualGraphs_l3 (F : Nat) (p0_a_Rows : List Int) (p1_b_Rows : List Int) (x50 : Int) : Option ((Int) ⊕ (Unit ⊕ Bool)) :=
  (if (decide (x50 < (p0_a_Rows.length : Int))) = true then ((idxL p0_a_Rows x50).bind fun x80 => ((idxL p1_b_Rows x50).bind fun x81 => (if (x80 != x81) = true then some (Sum.inr (Sum.inr false)) else some (Sum.inl (IntKind.i64.wrap (x50 + 1)))))) else some (Sum.inr (Sum.inl ())))

def S_spec_EqualGraphs_j1 (F : Nat) (p0_a_Rows : List Int) (p1_b_Rows : List Int) (p11 : Bool) : Option (Bool) :=
  (if p11 = true then some false else (loopN (σ := Int) (β := (Unit ⊕ Bool)) (fun s => S_spec_EqualGraphs_l3 F p0_a_Rows p1_b_Rows s) F 0).bind (fun b => (match b with | .inl o => S_spec_EqualGraphs_j2 F | .inr o => some o)))

def S_spec_EqualGraphs (F : Nat) (p0_a_Size : Int) (p0_a_Rows : List Int) (p1_b_Size : Int) (p1_b_Rows : List Int) : Option (Bool) :=
  (if (p0_a_Size != p1_b_Size) = true then S_spec_EqualGraphs_j1 F p0_a_Rows p1_b_Rows true else S_spec_EqualGraphs_j1 F p0_a_Rows p1_b_Rows ((p0_a_Rows.length : Int) != (p1_b_Rows.length : Int)))

def S_impl_EdgesOf_j1 (F : Nat) (l220 : List (List Int)) : Option ((List (List Int))) :=
  some l220

def S_impl_EdgesOf_j3 (F : Nat) (x226 : Int) (l376 : List (List Int)) : Option (((List (List Int)) × Int) ⊕ (((List (List Int))))) :=
  some (Sum.inl (l376, (IntKind.i64.wrap (x226 + 1))))

def S_impl_EdgesOf_j5 (F : Nat) (x384 : Int) (l416 : List (List Int)) : Option (((List (List Int)) × Int) ⊕ (((List (List Int))))) :=
  some (Sum.inl (l416, (IntKind.i64.wrap (x384 + 1))))

def S_impl_EdgesOf_l4 (F : Nat) (p0_g_Size : Int) (x226 : Int) (x379 : Int) (l383 : List (List Int)) (x384 : Int) : Option (((List (List Int)) × Int) ⊕ (((List (List Int))))) :=
  (if (decide (x384 < p0_g_Size)) = true then ((S_impl_has F x379 x384).bind fun r419 => (if r419 = true then ((catO l383.length ([([x226, x384] : List (Int))] : List (List Int)).length).bind fun _ => S_impl_EdgesOf_j5 F x384 (l383 ++ ([([x226, x384] : List (Int))] : List (List Int)))) else S_impl_EdgesOf_j5 F x384 l383)) else some (Sum.inr l383))

def S_impl_EdgesOf_l2 (F : Nat) (p0_g_Size : Int) (p0_g_Rows : List Int) (l225 : List (List Int)) (x226 : Int) : Option (((List (List Int)) × Int) ⊕ (((List (List Int))))) :=
  (if (decide (x226 < (p0_g_Rows.length : Int))) = true then ((idxL p0_g_Rows x226).bind fun x379 => (loopN (σ := ((List (List Int)) × Int)) (β := (((List (List Int))))) (fun s => S_impl_EdgesOf_l4 F p0_g_Size x226 x379 s.1 s.2) F (l225, (IntKind.i64.wrap (x226 + 1)))).bind (fun b => S_impl_EdgesOf_j3 F x226 b)) else some (Sum.inr l225))

def S_impl_EdgesOf (F : Nat) (p0_g_Size : Int) (p0_g_Rows : List Int) : Option ((List (List Int))) :=
  ((S_impl_IsGraph F p0_g_Size p0_g_Rows).bind fun r14 => (if (!r14) = true then some ([] : List (List Int)) else (loopN (σ := ((List (List Int)) × Int)) (β := (((List (List Int))))) (fun s => S_impl_EdgesOf_l2 F p0_g_Size p0_g_Rows s.1 s.2) F (([] : List (List Int)), 0)).bind (fun b => S_impl_EdgesOf_j1 F b)))

def S_spec_DrawSetOf_j2 (F : Nat) (l65 : List Int) : Option ((List (Int))) :=
  some l65

def S_spec_DrawSetOf_j1 (F : Nat) (p0_code : List Int) (x52 : Int) (x53 : Int) (l55 : List Int) : Option ((List (Int))) :=
  ((S_spec_l1Once F p0_code x52 x53 10).bind fun r69 => (if r69.1 = true then ((S_spec_l1PickInt F p0_code r69.2.1 r69.2.2 ([(-1), 7] : List (Int))).bind fun r71 => ((catO l55.length ([r71.1] : List (Int)).length).bind fun _ => S_spec_DrawSetOf_j2 F (l55 ++ ([r71.1] : List (Int))))) else S_spec_DrawSetOf_j2 F l55))

def S_spec_DrawSetOf_l3 (F : Nat) (p0_code : List Int) (x90 : Int) (x91 : Int) (l93 : List Int) (x94 : Int) : Option ((Int × Int × (List Int) × Int) ⊕ ((Int × Int × (List Int)))) :=
  (if (decide ((0 : Int) < x94)) = true then ((S_spec_l1Below F p0_code x90 x91 7).bind fun r112 => ((catO l93.length ([r112.1] : List (Int)).length).bind fun _ => some (Sum.inl (r112.2.1, r112.2.2, (l93 ++ ([r112.1] : List (Int))), (IntKind.i64.wrap (x94 - 1)))))) else some (Sum.inr (x90, x91, l93)))

def S_spec_DrawSetOf (F : Nat) (p0_code : List Int) : Option ((List (Int))) :=
  ((S_spec_l1New F p0_code).bind fun r5 => ((S_spec_l1Below F p0_code r5.1 r5.2 5).bind fun r76 => (loopN (σ := (Int × Int × (List Int) × Int)) (β := ((Int × Int × (List Int)))) (fun s => S_spec_DrawSetOf_l3 F p0_code s.1 s.2.1 s.2.2.1 s.2.2.2) F (r76.2.1, r76.2.2, ([] : List (Int)), r76.1)).bind (fun b => S_spec_DrawSetOf_j1 F p0_code b.1 b.2.1 b.2.2)))

def S_impl_SetOf_j1 (F : Nat) (x85 : Int) : Option (Int × Bool) :=
  some (x85, true)

def S_impl_SetOf_j3 (F : Nat) (x88 : Int) (x89 : Int) (x152 : Int) (p164 : Bool) : Option ((Int × Int) ⊕ (Int ⊕ (Int × Bool))) :=
  (if p164 = true then some (Sum.inr (Sum.inr (0, false))) else ((nnO x152).bind fun _ => some (Sum.inl ((bOr x88 (shL 1 x152)), (IntKind.i64.wrap (x89 + 1))))))

def S_impl_SetOf_l2 (F : Nat) (p0_l : List Int) (x88 : Int) (x89 : Int) : Option ((Int × Int) ⊕ (Int ⊕ (Int × Bool))) :=
  (if (decide (x89 < (p0_l.length : Int))) = true then ((idxL p0_l x89).bind fun x152 => ((S_impl_within F x152 0 6).bind fun r166 => (if (!r166) = true then S_impl_SetOf_j3 F x88 x89 x152 true else ((S_impl_has F x88 x152).bind fun r167 => S_impl_SetOf_j3 F x88 x89 x152 r167)))) else some (Sum.inr (Sum.inl x88)))

def S_impl_SetOf (F : Nat) (p0_l : List Int) : Option (Int × Bool) :=
  (loopN (σ := (Int × Int)) (β := (Int ⊕ (Int × Bool))) (fun s => S_impl_SetOf_l2 F p0_l s.1 s.2) F (0, 0)).bind (fun b => (match b with | .inl o => S_impl_SetOf_j1 F o | .inr o => some o))

def S_spec_SetOf_j1 (F : Nat) (x95 : Int) : Option (Int × Bool) :=
  some (x95, true)

def S_spec_SetOf_j3 (F : Nat) (p0_l : List Int) (x98 : Int) (x99 : Int) (p182 : Bool) : Option ((Int × Int) ⊕ (Int ⊕ (Int × Bool))) :=
  (if p182 = true then some (Sum.inr (Sum.inr (0, false))) else ((idxL p0_l x99).bind fun x184 => ((nnO x184).bind fun _ => some (Sum.inl ((IntKind.i64.wrap (x98 + (shL 1 x184))), (IntKind.i64.wrap (x99 + 1)))))))

def S_spec_SetOf_l2 (F : Nat) (p0_l : List Int) (x98 : Int) (x99 : Int) : Option ((Int × Int) ⊕ (Int ⊕ (Int × Bool))) :=
  (if (decide (x99 < (p0_l.length : Int))) = true then ((idxL p0_l x99).bind fun x185 => ((S_spec_l1In F x185 0 6).bind fun r186 => (if (!r186) = true then S_spec_SetOf_j3 F p0_l x98 x99 true else ((idxL p0_l x99).bind fun x187 => ((nnO x187).bind fun _ => S_spec_SetOf_j3 F p0_l x98 x99 ((bAnd (shR x98 x187) 1) == 1)))))) else some (Sum.inr (Sum.inl x98)))

def S_spec_SetOf (F : Nat) (p0_l : List Int) : Option (Int × Bool) :=
  (loopN (σ := (Int × Int)) (β := (Int ⊕ (Int × Bool))) (fun s => S_spec_SetOf_l2 F p0_l s.1 s.2) F (0, 0)).bind (fun b => (match b with | .inl o => S_spec_SetOf_j1 F o | .inr o => some o))

def S_laws_big (F : Nat) (p0_code : List Int) : Option (Bool) :=
  some (decide ((1048576 : Int) < (p0_code.length : Int)))

def S_spec_DrawPartsOf (F : Nat) (p0_code : List Int) : Option (Int × (List (Int)) × Int) :=
  ((S_spec_l3Both F p0_code).bind fun r8 => some (r8.1, r8.2.1, r8.2.2))

def S_impl_partOf_l1 (F : Nat) (p0_g_Size : Int) (p0_g_Rows : List Int) (p1_set : Int) (x4 : Int) : Option ((Int) ⊕ (Int)) :=
  ((S_impl_neighbors F p0_g_Size p0_g_Rows x4).bind fun r15 => (if ((bAnd (bOr x4 r15) p1_set) == x4) = true then some (Sum.inr x4) else some (Sum.inl (bAnd (bOr x4 r15) p1_set))))

def S_impl_partOf (F : Nat) (p0_g_Size : Int) (p0_g_Rows : List Int) (p1_set : Int) (p2_from : Int) : Option (Int) :=
  (loopN (σ := Int) (β := Int) (fun s => S_impl_partOf_l1 F p0_g_Size p0_g_Rows p1_set s) F p2_from).bind (fun b => some b)

def S_impl_parts_j1 (F : Nat) (l34 : List Int) : Option ((List (Int))) :=
  some l34

def S_impl_parts_l2 (F : Nat) (p0_g_Size : Int) (p0_g_Rows : List Int) (x36 : Int) (l38 : List Int) : Option ((Int × (List Int)) ⊕ (((List Int)))) :=
  (if (x36 != 0) = true then ((S_impl_partOf F p0_g_Size p0_g_Rows x36 (bAnd x36 (IntKind.i64.wrap (0 - x36)))).bind fun r55 => ((catO l38.length ([r55] : List (Int)).length).bind fun _ => some (Sum.inl ((bAndNot x36 r55), (l38 ++ ([r55] : List (Int))))))) else some (Sum.inr l38))

def S_impl_parts (F : Nat) (p0_g_Size : Int) (p0_g_Rows : List Int) (p1_set : Int) : Option ((List (Int))) :=
  (loopN (σ := (Int × (List Int))) (β := (((List Int)))) (fun s => S_impl_parts_l2 F p0_g_Size p0_g_Rows s.1 s.2) F (p1_set, ([] : List (Int)))).bind (fun b => S_impl_parts_j1 F b)

def S_impl_PartsOf (F : Nat) (p0_g_Size : Int) (p0_g_Rows : List Int) (p1_set : Int) : Option ((List (Int))) :=
  ((S_impl_IsSet F p0_g_Size p0_g_Rows p1_set).bind fun r11 => (if (!r11) = true then some ([] : List (Int)) else ((S_impl_parts F p0_g_Size p0_g_Rows p1_set).bind fun r16 => some r16)))

def S_laws_sameInts_j1 (F : Nat) : Option (Bool) :=
  some true

def S_laws_sameInts_l2 (F : Nat) (p0_a : List Int) (p1_b : List Int) (x44 : Int) : Option ((Int) ⊕ (Unit ⊕ Bool)) :=
  (if (decide (x44 < (p0_a.length : Int))) = true then ((idxL p0_a x44).bind fun x74 => ((idxL p1_b x44).bind fun x75 => (if (x74 != x75) = true then some (Sum.inr (Sum.inr false)) else some (Sum.inl (IntKind.i64.wrap (x44 + 1)))))) else some (Sum.inr (Sum.inl ())))

def S_laws_sameInts (F : Nat) (p0_a : List Int) (p1_b : List Int) : Option (Bool) :=
  (if ((p0_a.length : Int) != (p1_b.length : Int)) = true then some false else (loopN (σ := Int) (β := (Unit ⊕ Bool)) (fun s => S_laws_sameInts_l2 F p0_a p1_b s) F 0).bind (fun b => (match b with | .inl o => S_laws_sameInts_j1 F | .inr o => some o)))

def S_spec_l3Grow_j1 (F : Nat) (x21 : Int) : Option (Int) :=
  some x21

def S_spec_l3Grow_l2 (F : Nat) (p0_g_Size : Int) (p0_g_Rows : List Int) (p2_set : Int) (x24 : Int) (x25 : Int) : Option ((Int × Int) ⊕ (Int)) :=
  (if (decide (x25 < p0_g_Size)) = true then ((S_spec_AroundSet F p0_g_Size p0_g_Rows x24).bind fun r37 => some (Sum.inl ((bAnd r37 p2_set), (IntKind.i64.wrap (x25 + 1))))) else some (Sum.inr x24))

def S_spec_l3Grow (F : Nat) (p0_g_Size : Int) (p0_g_Rows : List Int) (p1_from : Int) (p2_set : Int) : Option (Int) :=
  (loopN (σ := (Int × Int)) (β := Int) (fun s => S_spec_l3Grow_l2 F p0_g_Size p0_g_Rows p2_set s.1 s.2) F (p1_from, 0)).bind (fun b => S_spec_l3Grow_j1 F b)

def S_spec_PartsOf_j1 (F : Nat) (l61 : List Int) : Option ((List (Int))) :=
  some l61

def S_spec_PartsOf_j3 (F : Nat) (p0_g_Size : Int) (p0_g_Rows : List Int) (p1_set : Int) (l64 : List Int) (x65 : Int) (p97 : Bool) : Option (((List Int) × Int) ⊕ (((List Int)))) :=
  (if p97 = true then ((S_spec_ListOf F x65).bind fun r102 => ((idxL r102 0).bind fun x104 => ((nnO x104).bind fun _ => ((S_spec_l3Grow F p0_g_Size p0_g_Rows (shL 1 x104) p1_set).bind fun r107 => ((catO l64.length ([r107] : List (Int)).length).bind fun _ => some (Sum.inl ((l64 ++ ([r107] : List (Int))), (IntKind.i64.wrap (x65 - r107))))))))) else some (Sum.inr l64))

def S_spec_PartsOf_l2 (F : Nat) (p0_g_Size : Int) (p0_g_Rows : List Int) (p1_set : Int) (l64 : List Int) (x65 : Int) : Option (((List Int) × Int) ⊕ (((List Int)))) :=
  (if (decide ((0 : Int) < x65)) = true then ((S_spec_IsSet F p0_g_Size p0_g_Rows p1_set).bind fun r113 => S_spec_PartsOf_j3 F p0_g_Size p0_g_Rows p1_set l64 x65 r113) else S_spec_PartsOf_j3 F p0_g_Size p0_g_Rows p1_set l64 x65 false)

def S_spec_PartsOf (F : Nat) (p0_g_Size : Int) (p0_g_Rows : List Int) (p1_set : Int) : Option ((List (Int))) :=
  (loopN (σ := ((List Int) × Int)) (β := (((List Int)))) (fun s => S_spec_PartsOf_l2 F p0_g_Size p0_g_Rows p1_set s.1 s.2) F (([] : List (Int)), p1_set)).bind (fun b => S_spec_PartsOf_j1 F b)

def S_laws_FnSets_j5 (F : Nat) (p242 : Bool) : Option (Bool) :=
  some p242

def S_laws_FnSets_j4 (F : Nat) (p0_code : List Int) (p227 : Bool) : Option (Bool) :=
  (if p227 = true then some false else ((S_spec_DrawSetOf F p0_code).bind fun r232 => ((S_impl_SetOf F r232).bind fun r236 => ((S_spec_SetOf F r232).bind fun r239 => (if (r236.1 == r239.1) = true then (if (r236.2 == r239.2) = true then (if (!r236.2) = true then S_laws_FnSets_j5 F true else ((S_impl_CountSet F r239.1).bind fun r243 => S_laws_FnSets_j5 F (r243 == (r232.length : Int)))) else S_laws_FnSets_j5 F false) else S_laws_FnSets_j5 F false)))))

def S_laws_FnSets_j3 (F : Nat) (p0_code : List Int) (p144 : Bool) : Option (Bool) :=
  (if p144 = true then some false else ((S_spec_DrawIsClique F p0_code).bind fun r150 => ((S_spec_ComplementOf F r150.1 r150.2.1).bind fun r157 => ((S_impl_InducedOn F r150.1 r150.2.1 r150.2.2).bind fun r164 => ((S_spec_InducedOn F r150.1 r150.2.1 r150.2.2).bind fun r171 => ((S_impl_IsClique F r150.1 r150.2.1 r150.2.2).bind fun r244 => ((S_spec_IsClique F r150.1 r150.2.1 r150.2.2).bind fun r245 => (if (r244 != r245) = true then S_laws_FnSets_j4 F p0_code true else ((S_impl_IsIndependent F r150.1 r150.2.1 r150.2.2).bind fun r246 => ((S_spec_IsIndependent F r150.1 r150.2.1 r150.2.2).bind fun r247 => (if (r246 != r247) = true then S_laws_FnSets_j4 F p0_code true else (if r157.2.2 = true then ((S_impl_IsClique F r150.1 r150.2.1 r150.2.2).bind fun r248 => ((S_impl_IsIndependent F r157.1 r157.2.1 r150.2.2).bind fun r249 => (if (r248 != r249) = true then S_laws_FnSets_j4 F p0_code true else (if (r164.2.2 != r171.2.2) = true then S_laws_FnSets_j4 F p0_code true else ((S_spec_EqualGraphs F r164.1 r164.2.1 r171.1 r171.2.1).bind fun r250 => (if (!r250) = true then S_laws_FnSets_j4 F p0_code true else (if r164.2.2 = true then ((S_impl_IsClique F r150.1 r150.2.1 r150.2.2).bind fun r251 => ((S_impl_EdgesOf F r171.1 r171.2.1).bind fun r252 => S_laws_FnSets_j4 F p0_code (r251 != ((r252.length : Int) == (IntKind.i64.wrap ((IntKind.i64.wrap (r171.1 * (IntKind.i64.wrap (r171.1 - 1)))).tdiv 2)))))) else S_laws_FnSets_j4 F p0_code false))))))) else (if (r164.2.2 != r171.2.2) = true then S_laws_FnSets_j4 F p0_code true else ((S_spec_EqualGraphs F r164.1 r164.2.1 r171.1 r171.2.1).bind fun r255 => (if (!r255) = true then S_laws_FnSets_j4 F p0_code true else (if r164.2.2 = true then ((S_impl_IsClique F r150.1 r150.2.1 r150.2.2).bind fun r256 => ((S_impl_EdgesOf F r171.1 r171.2.1).bind fun r257 => S_laws_FnSets_j4 F p0_code (r256 != ((r257.length : Int) == (IntKind.i64.wrap ((IntKind.i64.wrap (r171.1 * (IntKind.i64.wrap (r171.1 - 1)))).tdiv 2)))))) else S_laws_FnSets_j4 F p0_code false))))))))))))))))

def S_laws_FnSets_j2 (F : Nat) (p0_code : List Int) (r15 : Int × (List (Int)) × Int) (x135 : Int) : Option (Bool) :=
  ((S_spec_IsSet F r15.1 r15.2.1 r15.2.2).bind fun r260 => (if r260 = true then S_laws_FnSets_j3 F p0_code (x135 != r15.2.2) else S_laws_FnSets_j3 F p0_code false))

def S_laws_FnSets_l6 (F : Nat) (r15 : Int × (List (Int)) × Int) (r21 : (List (Int))) (x262 : Int) (x263 : Int) : Option ((Int × Int) ⊕ (Int ⊕ Bool)) :=
  (if (decide (x263 < (r21.length : Int))) = true then ((idxL r21 x263).bind fun x307 => ((idxL r21 x263).bind fun x312 => ((idxL r21 x263).bind fun x313 => ((S_impl_AroundSet F r15.1 r15.2.1 x312).bind fun r314 => (if ((bAnd r314 r15.2.2) != x313) = true then some (Sum.inr (Sum.inr false)) else some (Sum.inl ((IntKind.i64.wrap (x262 + x307)), (IntKind.i64.wrap (x263 + 1))))))))) else some (Sum.inr (Sum.inl x262)))

def S_laws_FnSets_j1 (F : Nat) (p0_code : List Int) (r15 : Int × (List (Int)) × Int) (r21 : (List (Int))) (p76 : Bool) : Option (Bool) :=
  (if p76 = true then some false else (loopN (σ := (Int × Int)) (β := (Int ⊕ Bool)) (fun s => S_laws_FnSets_l6 F r15 r21 s.1 s.2) F (0, 0)).bind (fun b => (match b with | .inl o => S_laws_FnSets_j2 F p0_code r15 o | .inr o => some o)))

def S_laws_FnSets (F : Nat) (p0_code : List Int) : Option (Bool) :=
  ((S_laws_big F p0_code).bind fun r9 => (if r9 = true then some true else ((S_spec_DrawPartsOf F p0_code).bind fun r15 => ((S_impl_PartsOf F r15.1 r15.2.1 r15.2.2).bind fun r21 => ((S_spec_PartsOf F r15.1 r15.2.1 r15.2.2).bind fun r316 => ((S_laws_sameInts F r21 r316).bind fun r318 => (if (!r318) = true then S_laws_FnSets_j1 F p0_code r15 r21 true else ((S_impl_IsSet F r15.1 r15.2.1 r15.2.2).bind fun r319 => ((S_spec_IsSet F r15.1 r15.2.1 r15.2.2).bind fun r320 => (if (r319 != r320) = true then S_laws_FnSets_j1 F p0_code r15 r21 true else ((S_impl_CountSet F r15.2.2).bind fun r321 => ((S_spec_CountSet F r15.2.2).bind fun r322 => (if (r321 != r322) = true then S_laws_FnSets_j1 F p0_code r15 r21 true else ((S_impl_ListOf F r15.2.2).bind fun r323 => ((S_spec_ListOf F r15.2.2).bind fun r325 => ((S_laws_sameInts F r323 r325).bind fun r327 => (if (!r327) = true then S_laws_FnSets_j1 F p0_code r15 r21 true else ((S_impl_FormatSet F r15.2.2).bind fun r328 => ((S_spec_FormatSet F r15.2.2).bind fun r329 => (if (r328 != r329) = true then S_laws_FnSets_j1 F p0_code r15 r21 true else ((S_impl_AroundSet F r15.1 r15.2.1 r15.2.2).bind fun r330 => ((S_spec_AroundSet F r15.1 r15.2.1 r15.2.2).bind fun r331 => S_laws_FnSets_j1 F p0_code r15 r21 (r330 != r331)))))))))))))))))))))))

end Go.Proofs.YtdalcpadcggklaaDoor
