/- Proved here: nothing but what each Go function of the seat computes, as printed by my translator -/
import Derived.Test.YtfhjmoikggiblaaK8
namespace Go.Proofs.Ytfhjmoikggiblaa
open Go Go.RowKit
set_option linter.unusedVariables false
set_option linter.unusedSimpArgs false
set_option maxRecDepth 100000
set_option maxHeartbeats 4000000

def S_laws_szIntS (F : Nat) (p0_a : List Int) (p1_left : Int) : Option (Int) :=
  (if (decide ((IntKind.i64.wrap (p1_left - (p0_a.length : Int))) < 0)) = true then some (-1) else some (IntKind.i64.wrap (p1_left - (p0_a.length : Int))))

def S_laws_szGraph (F : Nat) (p0_a_Size : Int) (p0_a_Rows : List Int) (p1_left : Int) : Option (Int) :=
  ((S_laws_szIntS F p0_a_Rows p1_left).bind fun r6 => (if (decide (r6 < 0)) = true then some (-1) else some r6))

def S_spec_l1In_j1 (F : Nat) (p3 : Bool) : Option (Bool) :=
  some p3

def S_spec_l1In (F : Nat) (p0_x : Int) (p1_low : Int) (p2_high : Int) : Option (Bool) :=
  (if (decide (p1_low ≤ p0_x)) = true then S_spec_l1In_j1 F (decide (p0_x ≤ p2_high)) else S_spec_l1In_j1 F false)

def S_spec_IsGraph_j2 (F : Nat) : Option (Bool) :=
  some true

def S_spec_IsGraph_j4 (F : Nat) (x319 : Int) : Option ((Int) ⊕ (Unit ⊕ Bool)) :=
  some (Sum.inl (IntKind.i64.wrap (x319 + 1)))

def S_spec_IsGraph_j7 (F : Nat) (x564 : Int) (p611 : Bool) : Option ((Int) ⊕ (Unit ⊕ Bool)) :=
  (if p611 = true then some (Sum.inr (Sum.inr false)) else some (Sum.inl (IntKind.i64.wrap (x564 + 1))))

def S_spec_IsGraph_l6 (F : Nat) (p0_g_Size : Int) (p0_g_Rows : List Int) (x319 : Int) (x564 : Int) : Option ((Int) ⊕ (Unit ⊕ Bool)) :=
  (if (decide (x564 < p0_g_Size)) = true then ((idxL p0_g_Rows x319).bind fun x613 => ((nnO x564).bind fun _ => (if ((bAnd (shR x613 x564) 1) == 1) = true then ((idxL p0_g_Rows x564).bind fun x614 => (if (decide (x614 < 0)) = true then S_spec_IsGraph_j7 F x564 true else ((idxL p0_g_Rows x564).bind fun x615 => ((nnO p0_g_Size).bind fun _ => (if (decide ((shL 1 p0_g_Size) ≤ x615)) = true then S_spec_IsGraph_j7 F x564 true else ((idxL p0_g_Rows x564).bind fun x616 => ((nnO x319).bind fun _ => S_spec_IsGraph_j7 F x564 ((bAnd (shR x616 x319) 1) == 0)))))))) else S_spec_IsGraph_j7 F x564 false))) else some (Sum.inr (Sum.inl ())))

def S_spec_IsGraph_j5 (F : Nat) (p0_g_Size : Int) (p0_g_Rows : List Int) (x319 : Int) (p561 : Bool) : Option ((Int) ⊕ (Unit ⊕ Bool)) :=
  (if p561 = true then some (Sum.inr (Sum.inr false)) else (loopN (σ := Int) (β := (Unit ⊕ Bool)) (fun s => S_spec_IsGraph_l6 F p0_g_Size p0_g_Rows x319 s) F 0).bind (fun b => (match b with | .inl o => S_spec_IsGraph_j4 F x319 | .inr o => some (Sum.inr (Sum.inr o)))))

def S_spec_IsGraph_l3 (F : Nat) (p0_g_Size : Int) (p0_g_Rows : List Int) (x319 : Int) : Option ((Int) ⊕ (Unit ⊕ Bool)) :=
  (if (decide (x319 < p0_g_Size)) = true then ((idxL p0_g_Rows x319).bind fun x617 => (if (decide (x617 < 0)) = true then S_spec_IsGraph_j5 F p0_g_Size p0_g_Rows x319 true else ((idxL p0_g_Rows x319).bind fun x618 => ((nnO p0_g_Size).bind fun _ => (if (decide ((shL 1 p0_g_Size) ≤ x618)) = true then S_spec_IsGraph_j5 F p0_g_Size p0_g_Rows x319 true else ((idxL p0_g_Rows x319).bind fun x619 => ((nnO x319).bind fun _ => S_spec_IsGraph_j5 F p0_g_Size p0_g_Rows x319 ((bAnd (shR x619 x319) 1) == 1)))))))) else some (Sum.inr (Sum.inl ())))

def S_spec_IsGraph_j1 (F : Nat) (p0_g_Size : Int) (p0_g_Rows : List Int) (p12 : Bool) : Option (Bool) :=
  (if p12 = true then some false else (loopN (σ := Int) (β := (Unit ⊕ Bool)) (fun s => S_spec_IsGraph_l3 F p0_g_Size p0_g_Rows s) F 0).bind (fun b => (match b with | .inl o => S_spec_IsGraph_j2 F | .inr o => some o)))

def S_spec_IsGraph (F : Nat) (p0_g_Size : Int) (p0_g_Rows : List Int) : Option (Bool) :=
  ((S_spec_l1In F p0_g_Size 1 7).bind fun r620 => (if (!r620) = true then S_spec_IsGraph_j1 F p0_g_Size p0_g_Rows true else S_spec_IsGraph_j1 F p0_g_Size p0_g_Rows ((p0_g_Rows.length : Int) != p0_g_Size)))

def S_spec_IsSet_j1 (F : Nat) (p6 : Bool) : Option (Bool) :=
  some p6

def S_spec_IsSet (F : Nat) (p0_g_Size : Int) (p0_g_Rows : List Int) (p1_set : Int) : Option (Bool) :=
  ((S_spec_IsGraph F p0_g_Size p0_g_Rows).bind fun r7 => (if r7 = true then (if (decide ((0 : Int) ≤ p1_set)) = true then ((nnO p0_g_Size).bind fun _ => S_spec_IsSet_j1 F (decide (p1_set < (shL 1 p0_g_Size)))) else S_spec_IsSet_j1 F false) else S_spec_IsSet_j1 F false))

def S_spec_AroundSet_j1 (F : Nat) (x36 : Int) : Option (Int) :=
  some x36

def S_spec_AroundSet_j3 (F : Nat) (x40 : Int) (x56 : Int) : Option ((Int × Int) ⊕ (Int)) :=
  some (Sum.inl (x56, (IntKind.i64.wrap (x40 + 1))))

def S_spec_AroundSet_l2 (F : Nat) (p0_g_Size : Int) (p0_g_Rows : List Int) (p1_set : Int) (x39 : Int) (x40 : Int) : Option ((Int × Int) ⊕ (Int)) :=
  (if (decide (x40 < p0_g_Size)) = true then ((nnO x40).bind fun _ => (if ((bAnd (shR p1_set x40) 1) == 1) = true then ((idxL p0_g_Rows x40).bind fun x58 => S_spec_AroundSet_j3 F x40 (bOr x39 x58)) else S_spec_AroundSet_j3 F x40 x39)) else some (Sum.inr x39))

def S_spec_AroundSet (F : Nat) (p0_g_Size : Int) (p0_g_Rows : List Int) (p1_set : Int) : Option (Int) :=
  ((S_spec_IsSet F p0_g_Size p0_g_Rows p1_set).bind fun r11 => (if (!r11) = true then some 0 else (loopN (σ := (Int × Int)) (β := Int) (fun s => S_spec_AroundSet_l2 F p0_g_Size p0_g_Rows p1_set s.1 s.2) F (p1_set, 0)).bind (fun b => S_spec_AroundSet_j1 F b)))

def S_laws_toIntS_j1 (F : Nat) (l34 : List Int) : Option ((List (Int))) :=
  some l34

def S_laws_toIntS_l2 (F : Nat) (p0_a : List Int) (l46 : List Int) (x47 : Int) : Option (((List Int) × Int) ⊕ (((List Int)))) :=
  (if (decide (x47 < (p0_a.length : Int))) = true then ((idxL p0_a x47).bind fun x62 => ((idxL l46 x47).bind fun x63 => some (Sum.inl ((l46.set (x47.toNat) x62), (IntKind.i64.wrap (x47 + 1)))))) else some (Sum.inr l46))

def S_laws_toIntS (F : Nat) (p0_a : List Int) : Option ((List (Int))) :=
  ((mkO (p0_a.length : Int)).bind fun _ => (loopN (σ := ((List Int) × Int)) (β := (((List Int)))) (fun s => S_laws_toIntS_l2 F p0_a s.1 s.2) F ((List.replicate (p0_a.length : Int).toNat (0 : Int)), 0)).bind (fun b => S_laws_toIntS_j1 F b))

def S_laws_toGraph (F : Nat) (p0_a_Size : Int) (p0_a_Rows : List Int) : Option (Int × (List (Int))) :=
  ((S_laws_toIntS F p0_a_Rows).bind fun r13 => some (p0_a_Size, r13))

def S_impl_within_j1 (F : Nat) (p3 : Bool) : Option (Bool) :=
  some p3

def S_impl_within (F : Nat) (p0_n : Int) (p1_low : Int) (p2_high : Int) : Option (Bool) :=
  (if (decide (p1_low ≤ p0_n)) = true then S_impl_within_j1 F (decide (p0_n ≤ p2_high)) else S_impl_within_j1 F false)

def S_impl_has (F : Nat) (p0_set : Int) (p1_v : Int) : Option (Bool) :=
  ((nnO p1_v).bind fun _ => some ((bAnd (shR p0_set p1_v) 1) == 1))

def S_impl_IsGraph_j3 (F : Nat) : Option (Bool) :=
  some true

def S_impl_IsGraph_j5 (F : Nat) (x262 : Int) : Option ((Int) ⊕ (Unit ⊕ Bool)) :=
  some (Sum.inl (IntKind.i64.wrap (x262 + 1)))

def S_impl_IsGraph_l6 (F : Nat) (p0_g_Rows : List Int) (x262 : Int) (x412 : Int) (x414 : Int) : Option ((Int) ⊕ (Unit ⊕ Bool)) :=
  (if (decide (x414 < x262)) = true then ((idxL p0_g_Rows x414).bind fun x453 => ((S_impl_has F x412 x414).bind fun r454 => ((S_impl_has F x453 x262).bind fun r455 => (if (r454 != r455) = true then some (Sum.inr (Sum.inr false)) else some (Sum.inl (IntKind.i64.wrap (x414 + 1))))))) else some (Sum.inr (Sum.inl ())))

def S_impl_IsGraph_l4 (F : Nat) (p0_g_Rows : List Int) (x262 : Int) : Option ((Int) ⊕ (Unit ⊕ Bool)) :=
  (if (decide (x262 < (p0_g_Rows.length : Int))) = true then ((idxL p0_g_Rows x262).bind fun x412 => (loopN (σ := Int) (β := (Unit ⊕ Bool)) (fun s => S_impl_IsGraph_l6 F p0_g_Rows x262 x412 s) F 0).bind (fun b => (match b with | .inl o => S_impl_IsGraph_j5 F x262 | .inr o => some (Sum.inr (Sum.inr o))))) else some (Sum.inr (Sum.inl ())))

def S_impl_IsGraph_j2 (F : Nat) (p0_g_Rows : List Int) : Option (Bool) :=
  (loopN (σ := Int) (β := (Unit ⊕ Bool)) (fun s => S_impl_IsGraph_l4 F p0_g_Rows s) F 0).bind (fun b => (match b with | .inl o => S_impl_IsGraph_j3 F | .inr o => some o))

def S_impl_IsGraph_j8 (F : Nat) (x458 : Int) (p501 : Bool) : Option ((Int) ⊕ (Unit ⊕ Bool)) :=
  (if p501 = true then some (Sum.inr (Sum.inr false)) else some (Sum.inl (IntKind.i64.wrap (x458 + 1))))

def S_impl_IsGraph_l7 (F : Nat) (p0_g_Size : Int) (p0_g_Rows : List Int) (x458 : Int) : Option ((Int) ⊕ (Unit ⊕ Bool)) :=
  (if (decide (x458 < (p0_g_Rows.length : Int))) = true then ((idxL p0_g_Rows x458).bind fun x497 => ((nnO p0_g_Size).bind fun _ => ((S_impl_within F x497 0 (IntKind.i64.wrap ((shL 1 p0_g_Size) - 1))).bind fun r503 => (if (!r503) = true then S_impl_IsGraph_j8 F x458 true else ((S_impl_has F x497 x458).bind fun r504 => S_impl_IsGraph_j8 F x458 r504))))) else some (Sum.inr (Sum.inl ())))

def S_impl_IsGraph_j1 (F : Nat) (p0_g_Size : Int) (p0_g_Rows : List Int) (p12 : Bool) : Option (Bool) :=
  (if p12 = true then some false else (loopN (σ := Int) (β := (Unit ⊕ Bool)) (fun s => S_impl_IsGraph_l7 F p0_g_Size p0_g_Rows s) F 0).bind (fun b => (match b with | .inl o => S_impl_IsGraph_j2 F p0_g_Rows | .inr o => some o)))

def S_impl_IsGraph (F : Nat) (p0_g_Size : Int) (p0_g_Rows : List Int) : Option (Bool) :=
  ((S_impl_within F p0_g_Size 1 7).bind fun r505 => (if (!r505) = true then S_impl_IsGraph_j1 F p0_g_Size p0_g_Rows true else S_impl_IsGraph_j1 F p0_g_Size p0_g_Rows ((p0_g_Rows.length : Int) != p0_g_Size)))

def S_impl_all (F : Nat) (p0_g_Size : Int) (p0_g_Rows : List Int) : Option (Int) :=
  ((nnO p0_g_Size).bind fun _ => some (IntKind.i64.wrap ((shL 1 p0_g_Size) - 1)))

def S_impl_IsSet_j1 (F : Nat) (p8 : Bool) : Option (Bool) :=
  some p8

def S_impl_IsSet (F : Nat) (p0_g_Size : Int) (p0_g_Rows : List Int) (p1_set : Int) : Option (Bool) :=
  ((S_impl_IsGraph F p0_g_Size p0_g_Rows).bind fun r9 => (if r9 = true then ((S_impl_all F p0_g_Size p0_g_Rows).bind fun r10 => ((S_impl_within F p1_set 0 r10).bind fun r11 => S_impl_IsSet_j1 F r11)) else S_impl_IsSet_j1 F false))

def S_impl_ListOf_j1 (F : Nat) (l54 : List Int) : Option ((List (Int))) :=
  some l54

def S_impl_ListOf_j3 (F : Nat) (x59 : Int) (l87 : List Int) : Option (((List Int) × Int) ⊕ (((List Int)))) :=
  some (Sum.inl (l87, (IntKind.i64.wrap (x59 + 1))))

def S_impl_ListOf_l2 (F : Nat) (p0_set : Int) (l58 : List Int) (x59 : Int) : Option (((List Int) × Int) ⊕ (((List Int)))) :=
  (if (decide (x59 < 7)) = true then ((S_impl_has F p0_set x59).bind fun r91 => (if r91 = true then ((catO l58.length ([x59] : List (Int)).length).bind fun _ => S_impl_ListOf_j3 F x59 (l58 ++ ([x59] : List (Int)))) else S_impl_ListOf_j3 F x59 l58)) else some (Sum.inr l58))

def S_impl_ListOf (F : Nat) (p0_set : Int) : Option ((List (Int))) :=
  ((S_impl_within F p0_set 0 127).bind fun r12 => (if (!r12) = true then some ([] : List (Int)) else (loopN (σ := ((List Int) × Int)) (β := (((List Int)))) (fun s => S_impl_ListOf_l2 F p0_set s.1 s.2) F (([] : List (Int)), 0)).bind (fun b => S_impl_ListOf_j1 F b)))

def S_impl_neighbors_j1 (F : Nat) (x35 : Int) : Option (Int) :=
  some x35

def S_impl_neighbors_l2 (F : Nat) (p0_g_Rows : List Int) (r40 : (List (Int))) (x42 : Int) (x43 : Int) : Option ((Int × Int) ⊕ (Int)) :=
  (if (decide (x43 < (r40.length : Int))) = true then ((idxL r40 x43).bind fun x64 => ((idxL p0_g_Rows x64).bind fun x65 => some (Sum.inl ((bOr x42 x65), (IntKind.i64.wrap (x43 + 1)))))) else some (Sum.inr x42))

def S_impl_neighbors (F : Nat) (p0_g_Size : Int) (p0_g_Rows : List Int) (p1_set : Int) : Option (Int) :=
  ((S_impl_ListOf F p1_set).bind fun r40 => (loopN (σ := (Int × Int)) (β := Int) (fun s => S_impl_neighbors_l2 F p0_g_Rows r40 s.1 s.2) F (0, 0)).bind (fun b => S_impl_neighbors_j1 F b))

def S_impl_AroundSet (F : Nat) (p0_g_Size : Int) (p0_g_Rows : List Int) (p1_set : Int) : Option (Int) :=
  ((S_impl_IsSet F p0_g_Size p0_g_Rows p1_set).bind fun r11 => (if (!r11) = true then some 0 else ((S_impl_neighbors F p0_g_Size p0_g_Rows p1_set).bind fun r15 => some (bOr p1_set r15))))

def S_laws_eqIntS_j1 (F : Nat) : Option (Bool) :=
  some true

def S_laws_eqIntS_l2 (F : Nat) (p0_a : List Int) (p1_b : List Int) (x44 : Int) : Option ((Int) ⊕ (Unit ⊕ Bool)) :=
  (if (decide (x44 < (p0_a.length : Int))) = true then ((idxL p0_a x44).bind fun x74 => ((idxL p1_b x44).bind fun x75 => (if (x74 != x75) = true then some (Sum.inr (Sum.inr false)) else some (Sum.inl (IntKind.i64.wrap (x44 + 1)))))) else some (Sum.inr (Sum.inl ())))

def S_laws_eqIntS (F : Nat) (p0_a : List Int) (p1_b : List Int) : Option (Bool) :=
  (if ((p0_a.length : Int) != (p1_b.length : Int)) = true then some false else (loopN (σ := Int) (β := (Unit ⊕ Bool)) (fun s => S_laws_eqIntS_l2 F p0_a p1_b s) F 0).bind (fun b => (match b with | .inl o => S_laws_eqIntS_j1 F | .inr o => some o)))

def S_laws_eqGraph (F : Nat) (p0_a_Size : Int) (p0_a_Rows : List Int) (p1_b_Size : Int) (p1_b_Rows : List Int) : Option (Bool) :=
  (if (p0_a_Size != p1_b_Size) = true then some false else ((S_laws_eqIntS F p0_a_Rows p1_b_Rows).bind fun r18 => (if (!r18) = true then some false else some true)))

def S_laws_FnExactAroundSet (F : Nat) (p0_aG_Size : Int) (p0_aG_Rows : List Int) (p1_aSet : Int) : Option (Bool) :=
  ((S_laws_szGraph F p0_aG_Size p0_aG_Rows 1048576).bind fun r7 => (if (decide (r7 < 0)) = true then some true else ((S_laws_toGraph F p0_aG_Size p0_aG_Rows).bind fun r17 => ((S_spec_AroundSet F r17.1 r17.2 p1_aSet).bind fun r19 => ((S_laws_toGraph F p0_aG_Size p0_aG_Rows).bind fun r24 => ((S_impl_AroundSet F r24.1 r24.2 p1_aSet).bind fun r29 => (if (r29 != r19) = true then some false else ((S_laws_toGraph F p0_aG_Size p0_aG_Rows).bind fun r48 => ((S_laws_eqGraph F r24.1 r24.2 r48.1 r48.2).bind fun r50 => (if (!r50) = true then some false else some true))))))))))

def S_spec_ComplementOf_j1 (F : Nat) (p0_g_Size : Int) (l61 : List Int) : Option (Int × (List (Int)) × Bool) :=
  some (p0_g_Size, l61, true)

def S_spec_ComplementOf_j3 (F : Nat) (x79 : Int) (l100 : List Int) : Option (((List Int) × Int) ⊕ (((List Int)))) :=
  some (Sum.inl (l100, (IntKind.i64.wrap (x79 + 1))))

def S_spec_ComplementOf_l2 (F : Nat) (p0_g_Size : Int) (p0_g_Rows : List Int) (l78 : List Int) (x79 : Int) : Option (((List Int) × Int) ⊕ (((List Int)))) :=
  (if (decide (x79 < p0_g_Size)) = true then ((nnO p0_g_Size).bind fun _ => ((idxL p0_g_Rows x79).bind fun x101 => ((nnO x79).bind fun _ => ((catO l78.length ([(IntKind.i64.wrap ((IntKind.i64.wrap ((IntKind.i64.wrap ((shL 1 p0_g_Size) - 1)) - x101)) - (shL 1 x79)))] : List (Int)).length).bind fun _ => S_spec_ComplementOf_j3 F x79 (l78 ++ ([(IntKind.i64.wrap ((IntKind.i64.wrap ((IntKind.i64.wrap ((shL 1 p0_g_Size) - 1)) - x101)) - (shL 1 x79)))] : List (Int))))))) else some (Sum.inr l78))

def S_spec_ComplementOf (F : Nat) (p0_g_Size : Int) (p0_g_Rows : List Int) : Option (Int × (List (Int)) × Bool) :=
  ((S_spec_IsGraph F p0_g_Size p0_g_Rows).bind fun r13 => (if (!r13) = true then some (0, ([] : List (Int)), false) else (loopN (σ := ((List Int) × Int)) (β := (((List Int)))) (fun s => S_spec_ComplementOf_l2 F p0_g_Size p0_g_Rows s.1 s.2) F (([] : List (Int)), 0)).bind (fun b => S_spec_ComplementOf_j1 F p0_g_Size b)))

def S_impl_copyGraph (F : Nat) (p0_g_Size : Int) (p0_g_Rows : List Int) : Option (Int × (List (Int))) :=
  ((catO ([] : List (Int)).length p0_g_Rows.length).bind fun _ => some (p0_g_Size, (([] : List (Int)) ++ p0_g_Rows)))

def S_impl_ComplementOf_j1 (F : Nat) (r19 : Int × (List (Int))) (l60 : List Int) : Option (Int × (List (Int)) × Bool) :=
  some (r19.1, l60, true)

def S_impl_ComplementOf_l2 (F : Nat) (p0_g_Size : Int) (p0_g_Rows : List Int) (r19 : Int × (List (Int))) (l75 : List Int) (x76 : Int) : Option (((List Int) × Int) ⊕ (((List Int)))) :=
  (if (decide (x76 < (r19.2.length : Int))) = true then ((idxL p0_g_Rows x76).bind fun x96 => ((nnO x76).bind fun _ => ((S_impl_all F p0_g_Size p0_g_Rows).bind fun r97 => ((idxL l75 x76).bind fun x98 => some (Sum.inl ((l75.set (x76.toNat) (bAndNot (bAndNot r97 x96) (shL 1 x76))), (IntKind.i64.wrap (x76 + 1)))))))) else some (Sum.inr l75))

def S_impl_ComplementOf (F : Nat) (p0_g_Size : Int) (p0_g_Rows : List Int) : Option (Int × (List (Int)) × Bool) :=
  ((S_impl_IsGraph F p0_g_Size p0_g_Rows).bind fun r13 => (if (!r13) = true then some (0, ([] : List (Int)), false) else ((S_impl_copyGraph F p0_g_Size p0_g_Rows).bind fun r19 => (loopN (σ := ((List Int) × Int)) (β := (((List Int)))) (fun s => S_impl_ComplementOf_l2 F p0_g_Size p0_g_Rows r19 s.1 s.2) F (r19.2, 0)).bind (fun b => S_impl_ComplementOf_j1 F r19 b))))

def S_laws_markIntS_j1 (F : Nat) (x39 : Int) (l40 : List Int) : Option (Int × (List (Int))) :=
  some (x39, l40)

def S_laws_markIntS_l2 (F : Nat) (l55 : List Int) (x56 : Int) (x57 : Int) : Option (((List Int) × Int × Int) ⊕ ((Int × (List Int)))) :=
  (if (decide (x57 < (l55.length : Int))) = true then ((idxL l55 x57).bind fun x77 => some (Sum.inl ((l55.set (x57.toNat) x56), (IntKind.i64.wrap (x56 + 1)), (IntKind.i64.wrap (x57 + 1))))) else some (Sum.inr (x56, l55)))

def S_laws_markIntS (F : Nat) (p0_a : List Int) (p1_k : Int) : Option (Int × (List (Int))) :=
  (loopN (σ := ((List Int) × Int × Int)) (β := ((Int × (List Int)))) (fun s => S_laws_markIntS_l2 F s.1 s.2.1 s.2.2) F (p0_a, p1_k, 0)).bind (fun b => S_laws_markIntS_j1 F b.1 b.2)

def S_laws_markGraph (F : Nat) (p0_a_Size : Int) (p0_a_Rows : List Int) (p1_k : Int) : Option (Int × (List (Int))) :=
  ((S_laws_markIntS F p0_a_Rows p1_k).bind fun r6 => some (r6.1, r6.2))

def S_laws_heldIntS_j1 (F : Nat) (x50 : Int) : Option (Int) :=
  some x50

def S_laws_heldIntS_l2 (F : Nat) (p0_a : List Int) (x53 : Int) (x54 : Int) : Option ((Int × Int) ⊕ (Int ⊕ Int)) :=
  (if (decide (x54 < (p0_a.length : Int))) = true then ((idxL p0_a x54).bind fun x97 => (if (x97 != x53) = true then some (Sum.inr (Sum.inr (-1))) else some (Sum.inl ((IntKind.i64.wrap (x53 + 1)), (IntKind.i64.wrap (x54 + 1)))))) else some (Sum.inr (Sum.inl x53)))

def S_laws_heldIntS (F : Nat) (p0_a : List Int) (p1_k : Int) : Option (Int) :=
  (loopN (σ := (Int × Int)) (β := (Int ⊕ Int)) (fun s => S_laws_heldIntS_l2 F p0_a s.1 s.2) F (p1_k, 0)).bind (fun b => (match b with | .inl o => S_laws_heldIntS_j1 F o | .inr o => some o))

def S_laws_heldGraph (F : Nat) (p0_a_Size : Int) (p0_a_Rows : List Int) (p1_k : Int) : Option (Int) :=
  ((S_laws_heldIntS F p0_a_Rows p1_k).bind fun r6 => (if (decide (r6 < 0)) = true then some (-1) else some r6))

def S_laws_FnExactComplementOf_j3 (F : Nat) (r35 : Int × (List (Int)) × Bool) (r82 : Int × (List (Int))) (p116 : Bool) : Option (Bool) :=
  (if p116 = true then some false else ((S_laws_heldGraph F r35.1 r82.2 1).bind fun r121 => (if (decide (r121 < 0)) = true then some false else (if (r121 != r82.1) = true then some false else some true))))

def S_laws_FnExactComplementOf_j2 (F : Nat) (p0_aG_Size : Int) (p0_aG_Rows : List Int) (r21 : Int × (List (Int)) × Bool) (r35 : Int × (List (Int)) × Bool) (p77 : Bool) : Option (Bool) :=
  (if p77 = true then some false else ((S_laws_markGraph F r35.1 r35.2.1 1).bind fun r82 => ((S_laws_heldGraph F r35.1 r82.2 1).bind fun r86 => (if (decide (r86 < 0)) = true then some false else (if (r86 != r82.1) = true then some false else ((S_laws_toGraph F p0_aG_Size p0_aG_Rows).bind fun r103 => ((S_impl_ComplementOf F r103.1 r103.2).bind fun r105 => ((S_laws_eqGraph F r105.1 r105.2.1 r21.1 r21.2.1).bind fun r133 => (if (!r133) = true then S_laws_FnExactComplementOf_j3 F r35 r82 true else S_laws_FnExactComplementOf_j3 F r35 r82 (r105.2.2 != r21.2.2))))))))))

def S_laws_FnExactComplementOf_j1 (F : Nat) (p0_aG_Size : Int) (p0_aG_Rows : List Int) (r21 : Int × (List (Int)) × Bool) (r28 : Int × (List (Int))) (r35 : Int × (List (Int)) × Bool) (p46 : Bool) : Option (Bool) :=
  (if p46 = true then some false else ((S_laws_toGraph F p0_aG_Size p0_aG_Rows).bind fun r61 => ((S_laws_eqGraph F r28.1 r28.2 r61.1 r61.2).bind fun r63 => (if (!r63) = true then some false else ((S_laws_markGraph F r28.1 r28.2 1).bind fun r68 => (if (decide (r68.1 < 0)) = true then S_laws_FnExactComplementOf_j2 F p0_aG_Size p0_aG_Rows r21 r35 true else ((S_laws_eqGraph F r35.1 r35.2.1 r21.1 r21.2.1).bind fun r134 => (if (!r134) = true then S_laws_FnExactComplementOf_j2 F p0_aG_Size p0_aG_Rows r21 r35 true else S_laws_FnExactComplementOf_j2 F p0_aG_Size p0_aG_Rows r21 r35 (r35.2.2 != r21.2.2)))))))))

def S_laws_FnExactComplementOf (F : Nat) (p0_aG_Size : Int) (p0_aG_Rows : List Int) : Option (Bool) :=
  ((S_laws_szGraph F p0_aG_Size p0_aG_Rows 1048576).bind fun r7 => (if (decide (r7 < 0)) = true then some true else ((S_laws_toGraph F p0_aG_Size p0_aG_Rows).bind fun r19 => ((S_spec_ComplementOf F r19.1 r19.2).bind fun r21 => ((S_laws_toGraph F p0_aG_Size p0_aG_Rows).bind fun r28 => ((S_impl_ComplementOf F r28.1 r28.2).bind fun r35 => ((S_laws_eqGraph F r35.1 r35.2.1 r21.1 r21.2.1).bind fun r135 => (if (!r135) = true then S_laws_FnExactComplementOf_j1 F p0_aG_Size p0_aG_Rows r21 r28 r35 true else S_laws_FnExactComplementOf_j1 F p0_aG_Size p0_aG_Rows r21 r28 r35 (r35.2.2 != r21.2.2)))))))))

def S_spec_SetOf_j1 (F : Nat) (x95 : Int) : Option (Int × Bool) :=
  some (x95, true)

def S_spec_SetOf_j3 (F : Nat) (p0_l : List Int) (x98 : Int) (x99 : Int) (p182 : Bool) : Option ((Int × Int) ⊕ (Int ⊕ (Int × Bool))) :=
  (if p182 = true then some (Sum.inr (Sum.inr (0, false))) else ((idxL p0_l x99).bind fun x184 => ((nnO x184).bind fun _ => some (Sum.inl ((IntKind.i64.wrap (x98 + (shL 1 x184))), (IntKind.i64.wrap (x99 + 1)))))))

def S_spec_SetOf_l2 (F : Nat) (p0_l : List Int) (x98 : Int) (x99 : Int) : Option ((Int × Int) ⊕ (Int ⊕ (Int × Bool))) :=
  (if (decide (x99 < (p0_l.length : Int))) = true then ((idxL p0_l x99).bind fun x185 => ((S_spec_l1In F x185 0 6).bind fun r186 => (if (!r186) = true then S_spec_SetOf_j3 F p0_l x98 x99 true else ((idxL p0_l x99).bind fun x187 => ((nnO x187).bind fun _ => S_spec_SetOf_j3 F p0_l x98 x99 ((bAnd (shR x98 x187) 1) == 1)))))) else some (Sum.inr (Sum.inl x98)))

def S_spec_SetOf (F : Nat) (p0_l : List Int) : Option (Int × Bool) :=
  (loopN (σ := (Int × Int)) (β := (Int ⊕ (Int × Bool))) (fun s => S_spec_SetOf_l2 F p0_l s.1 s.2) F (0, 0)).bind (fun b => (match b with | .inl o => S_spec_SetOf_j1 F o | .inr o => some o))

def S_spec_l4Distinct_j1 (F : Nat) (p10 : Bool) : Option (Bool) :=
  some p10

def S_spec_l4Distinct (F : Nat) (p0_g_Size : Int) (p0_g_Rows : List Int) (p1_l : List Int) : Option (Bool) :=
  ((S_spec_SetOf F p1_l).bind fun r6 => ((S_spec_IsGraph F p0_g_Size p0_g_Rows).bind fun r11 => (if r11 = true then (if r6.2 = true then ((S_spec_IsSet F p0_g_Size p0_g_Rows r6.1).bind fun r12 => S_spec_l4Distinct_j1 F r12) else S_spec_l4Distinct_j1 F false) else S_spec_l4Distinct_j1 F false)))

def S_spec_l2Edge (F : Nat) (p0_g_Size : Int) (p0_g_Rows : List Int) (p1_v : Int) (p2_w : Int) : Option (Bool) :=
  ((idxL p0_g_Rows p1_v).bind fun x6 => ((nnO p2_w).bind fun _ => some ((bAnd (shR x6 p2_w) 1) == 1)))

def S_spec_IsClaw_j1 (F : Nat) (p24 : Bool) : Option (Bool) :=
  some p24

def S_spec_IsClaw (F : Nat) (p0_g_Size : Int) (p0_g_Rows : List Int) (p1_l : List Int) : Option (Bool) :=
  (if ((p1_l.length : Int) == 4) = true then ((S_spec_l4Distinct F p0_g_Size p0_g_Rows p1_l).bind fun r25 => (if r25 = true then ((idxL p1_l 0).bind fun x26 => ((idxL p1_l 1).bind fun x27 => ((S_spec_l2Edge F p0_g_Size p0_g_Rows x26 x27).bind fun r28 => (if r28 = true then ((idxL p1_l 0).bind fun x29 => ((idxL p1_l 2).bind fun x30 => ((S_spec_l2Edge F p0_g_Size p0_g_Rows x29 x30).bind fun r31 => (if r31 = true then ((idxL p1_l 0).bind fun x32 => ((idxL p1_l 3).bind fun x33 => ((S_spec_l2Edge F p0_g_Size p0_g_Rows x32 x33).bind fun r34 => (if r34 = true then ((idxL p1_l 1).bind fun x35 => ((idxL p1_l 2).bind fun x36 => ((S_spec_l2Edge F p0_g_Size p0_g_Rows x35 x36).bind fun r37 => (if (!r37) = true then ((idxL p1_l 1).bind fun x38 => ((idxL p1_l 3).bind fun x39 => ((S_spec_l2Edge F p0_g_Size p0_g_Rows x38 x39).bind fun r40 => (if (!r40) = true then ((idxL p1_l 2).bind fun x41 => ((idxL p1_l 3).bind fun x42 => ((S_spec_l2Edge F p0_g_Size p0_g_Rows x41 x42).bind fun r43 => S_spec_IsClaw_j1 F (!r43)))) else S_spec_IsClaw_j1 F false)))) else S_spec_IsClaw_j1 F false)))) else S_spec_IsClaw_j1 F false)))) else S_spec_IsClaw_j1 F false)))) else S_spec_IsClaw_j1 F false)))) else S_spec_IsClaw_j1 F false)) else S_spec_IsClaw_j1 F false)

def S_impl_IsClaw_c1 (F : Nat) (p0_i : Int) (p1_k : Int) : Option (Bool) :=
  some (p0_i == 0)

def S_slices_Index_int_j1 (F : Nat) : Option (Int) :=
  some (-1)

def S_slices_Index_int_l2 (F : Nat) (p0_s : List Int) (p1_v : Int) (x33 : Int) : Option ((Int) ⊕ (Unit ⊕ Int)) :=
  (if (decide (x33 < (p0_s.length : Int))) = true then ((idxL p0_s x33).bind fun x58 => (if (p1_v == x58) = true then some (Sum.inr (Sum.inr x33)) else some (Sum.inl (IntKind.i64.wrap (x33 + 1))))) else some (Sum.inr (Sum.inl ())))

def S_slices_Index_int (F : Nat) (p0_s : List Int) (p1_v : Int) : Option (Int) :=
  (loopN (σ := Int) (β := (Unit ⊕ Int)) (fun s => S_slices_Index_int_l2 F p0_s p1_v s) F 0).bind (fun b => (match b with | .inl o => S_slices_Index_int_j1 F | .inr o => some o))

def S_slices_Contains_int (F : Nat) (p0_s : List Int) (p1_v : Int) : Option (Bool) :=
  ((S_slices_Index_int F p0_s p1_v).bind fun r4 => some (decide ((0 : Int) ≤ r4)))

def S_impl_areVertices_j1 (F : Nat) (p0_g_Size : Int) (p0_g_Rows : List Int) : Option (Bool) :=
  ((S_impl_IsGraph F p0_g_Size p0_g_Rows).bind fun r63 => some r63)

def S_impl_areVertices_j3 (F : Nat) (x65 : Int) (p115 : Bool) : Option ((Int) ⊕ (Unit ⊕ Bool)) :=
  (if p115 = true then some (Sum.inr (Sum.inr false)) else some (Sum.inl (IntKind.i64.wrap (x65 + 1))))

def S_impl_areVertices_l2 (F : Nat) (p0_g_Size : Int) (p1_l : List Int) (x65 : Int) : Option ((Int) ⊕ (Unit ⊕ Bool)) :=
  (if (decide (x65 < (p1_l.length : Int))) = true then ((idxL p1_l x65).bind fun x110 => ((S_impl_within F x110 0 (IntKind.i64.wrap (p0_g_Size - 1))).bind fun r117 => (if (!r117) = true then S_impl_areVertices_j3 F x65 true else ((slO p1_l.length x65).bind fun _ => ((S_slices_Contains_int F (p1_l.take (x65.toNat)) x110).bind fun r119 => S_impl_areVertices_j3 F x65 r119))))) else some (Sum.inr (Sum.inl ())))

def S_impl_areVertices (F : Nat) (p0_g_Size : Int) (p0_g_Rows : List Int) (p1_l : List Int) : Option (Bool) :=
  (loopN (σ := Int) (β := (Unit ⊕ Bool)) (fun s => S_impl_areVertices_l2 F p0_g_Size p1_l s) F 0).bind (fun b => (match b with | .inl o => S_impl_areVertices_j1 F p0_g_Size p0_g_Rows | .inr o => some o))

def S_impl_areJoined__IsClawc1_j1 (F : Nat) : Option (Bool) :=
  some true

def S_impl_areJoined__IsClawc1_j3 (F : Nat) (x268 : Int) : Option ((Int) ⊕ (Unit ⊕ Bool)) :=
  some (Sum.inl (IntKind.i64.wrap (x268 + 1)))

def S_impl_areJoined__IsClawc1_l4 (F : Nat) (p0_g_Rows : List Int) (p1_l : List Int) (x268 : Int) (x460 : Int) : Option ((Int) ⊕ (Unit ⊕ Bool)) :=
  (if (decide (x460 < x268)) = true then ((idxL p1_l x460).bind fun x513 => ((idxL p0_g_Rows x513).bind fun x514 => ((idxL p1_l x268).bind fun x515 => ((S_impl_has F x514 x515).bind fun r516 => ((S_impl_IsClaw_c1 F x460 x268).bind fun r517 => (if (r516 != r517) = true then some (Sum.inr (Sum.inr false)) else some (Sum.inl (IntKind.i64.wrap (x460 + 1))))))))) else some (Sum.inr (Sum.inl ())))

def S_impl_areJoined__IsClawc1_l2 (F : Nat) (p0_g_Rows : List Int) (p1_l : List Int) (x268 : Int) : Option ((Int) ⊕ (Unit ⊕ Bool)) :=
  (if (decide (x268 < (p1_l.length : Int))) = true then (loopN (σ := Int) (β := (Unit ⊕ Bool)) (fun s => S_impl_areJoined__IsClawc1_l4 F p0_g_Rows p1_l x268 s) F 0).bind (fun b => (match b with | .inl o => S_impl_areJoined__IsClawc1_j3 F x268 | .inr o => some (Sum.inr (Sum.inr o)))) else some (Sum.inr (Sum.inl ())))

def S_impl_areJoined__IsClawc1 (F : Nat) (p0_g_Size : Int) (p0_g_Rows : List Int) (p1_l : List Int) : Option (Bool) :=
  ((S_impl_areVertices F p0_g_Size p0_g_Rows p1_l).bind fun r11 => (if (!r11) = true then some false else (loopN (σ := Int) (β := (Unit ⊕ Bool)) (fun s => S_impl_areJoined__IsClawc1_l2 F p0_g_Rows p1_l s) F 0).bind (fun b => (match b with | .inl o => S_impl_areJoined__IsClawc1_j1 F | .inr o => some o))))

def S_impl_IsClaw_j1 (F : Nat) (p6 : Bool) : Option (Bool) :=
  some p6

def S_impl_IsClaw (F : Nat) (p0_g_Size : Int) (p0_g_Rows : List Int) (p1_l : List Int) : Option (Bool) :=
  (if ((p1_l.length : Int) == 4) = true then ((S_impl_areJoined__IsClawc1 F p0_g_Size p0_g_Rows p1_l).bind fun r7 => S_impl_IsClaw_j1 F r7) else S_impl_IsClaw_j1 F false)

def S_laws_FnExactIsClaw (F : Nat) (p0_aG_Size : Int) (p0_aG_Rows : List Int) (p1_aL : List Int) : Option (Bool) :=
  (if (decide ((1048576 : Int) < (p1_aL.length : Int))) = true then some true else ((S_laws_szGraph F p0_aG_Size p0_aG_Rows 1048576).bind fun r12 => (if (decide (r12 < 0)) = true then some true else ((S_laws_toGraph F p0_aG_Size p0_aG_Rows).bind fun r24 => ((S_laws_toIntS F p1_aL).bind fun r26 => ((S_spec_IsClaw F r24.1 r24.2 r26).bind fun r28 => ((S_laws_toGraph F p0_aG_Size p0_aG_Rows).bind fun r33 => ((S_laws_toIntS F p1_aL).bind fun r39 => ((S_impl_IsClaw F r33.1 r33.2 r39).bind fun r43 => (if (r43 != r28) = true then some false else ((S_laws_toGraph F p0_aG_Size p0_aG_Rows).bind fun r62 => ((S_laws_eqGraph F r33.1 r33.2 r62.1 r62.2).bind fun r64 => (if (!r64) = true then some false else ((S_laws_toIntS F p1_aL).bind fun r79 => ((S_laws_eqIntS F r39 r79).bind fun r81 => (if (!r81) = true then some false else some true))))))))))))))))

def S_spec_IsTwoEdges_j1 (F : Nat) (p24 : Bool) : Option (Bool) :=
  some p24

def S_spec_IsTwoEdges (F : Nat) (p0_g_Size : Int) (p0_g_Rows : List Int) (p1_l : List Int) : Option (Bool) :=
  (if ((p1_l.length : Int) == 4) = true then ((S_spec_l4Distinct F p0_g_Size p0_g_Rows p1_l).bind fun r25 => (if r25 = true then ((idxL p1_l 0).bind fun x26 => ((idxL p1_l 1).bind fun x27 => ((S_spec_l2Edge F p0_g_Size p0_g_Rows x26 x27).bind fun r28 => (if r28 = true then ((idxL p1_l 2).bind fun x29 => ((idxL p1_l 3).bind fun x30 => ((S_spec_l2Edge F p0_g_Size p0_g_Rows x29 x30).bind fun r31 => (if r31 = true then ((idxL p1_l 0).bind fun x32 => ((idxL p1_l 2).bind fun x33 => ((S_spec_l2Edge F p0_g_Size p0_g_Rows x32 x33).bind fun r34 => (if (!r34) = true then ((idxL p1_l 0).bind fun x35 => ((idxL p1_l 3).bind fun x36 => ((S_spec_l2Edge F p0_g_Size p0_g_Rows x35 x36).bind fun r37 => (if (!r37) = true then ((idxL p1_l 1).bind fun x38 => ((idxL p1_l 2).bind fun x39 => ((S_spec_l2Edge F p0_g_Size p0_g_Rows x38 x39).bind fun r40 => (if (!r40) = true then ((idxL p1_l 1).bind fun x41 => ((idxL p1_l 3).bind fun x42 => ((S_spec_l2Edge F p0_g_Size p0_g_Rows x41 x42).bind fun r43 => S_spec_IsTwoEdges_j1 F (!r43)))) else S_spec_IsTwoEdges_j1 F false)))) else S_spec_IsTwoEdges_j1 F false)))) else S_spec_IsTwoEdges_j1 F false)))) else S_spec_IsTwoEdges_j1 F false)))) else S_spec_IsTwoEdges_j1 F false)))) else S_spec_IsTwoEdges_j1 F false)) else S_spec_IsTwoEdges_j1 F false)

def S_impl_IsTwoEdges_c1_j1 (F : Nat) (p3 : Bool) : Option (Bool) :=
  some p3

def S_impl_IsTwoEdges_c1 (F : Nat) (p0_i : Int) (p1_k : Int) : Option (Bool) :=
  (if (p0_i == 0) = true then (if (p1_k == 1) = true then S_impl_IsTwoEdges_c1_j1 F true else (if (p0_i == 2) = true then S_impl_IsTwoEdges_c1_j1 F (p1_k == 3) else S_impl_IsTwoEdges_c1_j1 F false)) else (if (p0_i == 2) = true then S_impl_IsTwoEdges_c1_j1 F (p1_k == 3) else S_impl_IsTwoEdges_c1_j1 F false))

def S_impl_areJoined__IsTwoEdgesc1_j1 (F : Nat) : Option (Bool) :=
  some true

def S_impl_areJoined__IsTwoEdgesc1_j3 (F : Nat) (x268 : Int) : Option ((Int) ⊕ (Unit ⊕ Bool)) :=
  some (Sum.inl (IntKind.i64.wrap (x268 + 1)))

def S_impl_areJoined__IsTwoEdgesc1_l4 (F : Nat) (p0_g_Rows : List Int) (p1_l : List Int) (x268 : Int) (x460 : Int) : Option ((Int) ⊕ (Unit ⊕ Bool)) :=
  (if (decide (x460 < x268)) = true then ((idxL p1_l x460).bind fun x513 => ((idxL p0_g_Rows x513).bind fun x514 => ((idxL p1_l x268).bind fun x515 => ((S_impl_has F x514 x515).bind fun r516 => ((S_impl_IsTwoEdges_c1 F x460 x268).bind fun r517 => (if (r516 != r517) = true then some (Sum.inr (Sum.inr false)) else some (Sum.inl (IntKind.i64.wrap (x460 + 1))))))))) else some (Sum.inr (Sum.inl ())))

def S_impl_areJoined__IsTwoEdgesc1_l2 (F : Nat) (p0_g_Rows : List Int) (p1_l : List Int) (x268 : Int) : Option ((Int) ⊕ (Unit ⊕ Bool)) :=
  (if (decide (x268 < (p1_l.length : Int))) = true then (loopN (σ := Int) (β := (Unit ⊕ Bool)) (fun s => S_impl_areJoined__IsTwoEdgesc1_l4 F p0_g_Rows p1_l x268 s) F 0).bind (fun b => (match b with | .inl o => S_impl_areJoined__IsTwoEdgesc1_j3 F x268 | .inr o => some (Sum.inr (Sum.inr o)))) else some (Sum.inr (Sum.inl ())))

def S_impl_areJoined__IsTwoEdgesc1 (F : Nat) (p0_g_Size : Int) (p0_g_Rows : List Int) (p1_l : List Int) : Option (Bool) :=
  ((S_impl_areVertices F p0_g_Size p0_g_Rows p1_l).bind fun r11 => (if (!r11) = true then some false else (loopN (σ := Int) (β := (Unit ⊕ Bool)) (fun s => S_impl_areJoined__IsTwoEdgesc1_l2 F p0_g_Rows p1_l s) F 0).bind (fun b => (match b with | .inl o => S_impl_areJoined__IsTwoEdgesc1_j1 F | .inr o => some o))))

def S_impl_IsTwoEdges_j1 (F : Nat) (p6 : Bool) : Option (Bool) :=
  some p6

def S_impl_IsTwoEdges (F : Nat) (p0_g_Size : Int) (p0_g_Rows : List Int) (p1_l : List Int) : Option (Bool) :=
  (if ((p1_l.length : Int) == 4) = true then ((S_impl_areJoined__IsTwoEdgesc1 F p0_g_Size p0_g_Rows p1_l).bind fun r7 => S_impl_IsTwoEdges_j1 F r7) else S_impl_IsTwoEdges_j1 F false)

def S_laws_FnExactIsTwoEdges (F : Nat) (p0_aG_Size : Int) (p0_aG_Rows : List Int) (p1_aL : List Int) : Option (Bool) :=
  (if (decide ((1048576 : Int) < (p1_aL.length : Int))) = true then some true else ((S_laws_szGraph F p0_aG_Size p0_aG_Rows 1048576).bind fun r12 => (if (decide (r12 < 0)) = true then some true else ((S_laws_toGraph F p0_aG_Size p0_aG_Rows).bind fun r24 => ((S_laws_toIntS F p1_aL).bind fun r26 => ((S_spec_IsTwoEdges F r24.1 r24.2 r26).bind fun r28 => ((S_laws_toGraph F p0_aG_Size p0_aG_Rows).bind fun r33 => ((S_laws_toIntS F p1_aL).bind fun r39 => ((S_impl_IsTwoEdges F r33.1 r33.2 r39).bind fun r43 => (if (r43 != r28) = true then some false else ((S_laws_toGraph F p0_aG_Size p0_aG_Rows).bind fun r62 => ((S_laws_eqGraph F r33.1 r33.2 r62.1 r62.2).bind fun r64 => (if (!r64) = true then some false else ((S_laws_toIntS F p1_aL).bind fun r79 => ((S_laws_eqIntS F r39 r79).bind fun r81 => (if (!r81) = true then some false else some true))))))))))))))))

def S_spec_IsOrder_j1 (F : Nat) (p6 : Bool) : Option (Bool) :=
  some p6

def S_spec_IsOrder (F : Nat) (p0_g_Size : Int) (p0_g_Rows : List Int) (p1_l : List Int) : Option (Bool) :=
  ((S_spec_l4Distinct F p0_g_Size p0_g_Rows p1_l).bind fun r7 => (if r7 = true then S_spec_IsOrder_j1 F ((p1_l.length : Int) == p0_g_Size) else S_spec_IsOrder_j1 F false))

def S_spec_LaterNeighbours_j2 (F : Nat) (p0_g_Rows : List Int) (p2_v : Int) (x43 : Int) : Option (Int) :=
  ((idxL p0_g_Rows p2_v).bind fun x46 => some (bAnd x46 x43))

def S_spec_LaterNeighbours_j4 (F : Nat) (p1_order : List Int) (x48 : Int) (x49 : Int) (p69 : Bool) : Option ((Int × Int) ⊕ (Int)) :=
  (if p69 = true then ((idxL p1_order x49).bind fun x72 => ((nnO x72).bind fun _ => some (Sum.inl ((IntKind.i64.wrap (x48 - (shL 1 x72))), (IntKind.i64.wrap (x49 + 1)))))) else some (Sum.inr x48))

def S_spec_LaterNeighbours_l3 (F : Nat) (p1_order : List Int) (p2_v : Int) (x48 : Int) (x49 : Int) : Option ((Int × Int) ⊕ (Int)) :=
  (if (decide (x49 < (p1_order.length : Int))) = true then ((idxL p1_order x49).bind fun x73 => S_spec_LaterNeighbours_j4 F p1_order x48 x49 (x73 != p2_v)) else S_spec_LaterNeighbours_j4 F p1_order x48 x49 false)

def S_spec_LaterNeighbours_j1 (F : Nat) (p0_g_Size : Int) (p0_g_Rows : List Int) (p1_order : List Int) (p2_v : Int) (p12 : Bool) : Option (Int) :=
  (if p12 = true then some 0 else ((nnO p0_g_Size).bind fun _ => (loopN (σ := (Int × Int)) (β := Int) (fun s => S_spec_LaterNeighbours_l3 F p1_order p2_v s.1 s.2) F ((IntKind.i64.wrap ((shL 1 p0_g_Size) - 1)), 0)).bind (fun b => S_spec_LaterNeighbours_j2 F p0_g_Rows p2_v b)))

def S_spec_LaterNeighbours (F : Nat) (p0_g_Size : Int) (p0_g_Rows : List Int) (p1_order : List Int) (p2_v : Int) : Option (Int) :=
  ((S_spec_IsOrder F p0_g_Size p0_g_Rows p1_order).bind fun r74 => (if (!r74) = true then S_spec_LaterNeighbours_j1 F p0_g_Size p0_g_Rows p1_order p2_v true else (if (decide (p2_v < 0)) = true then S_spec_LaterNeighbours_j1 F p0_g_Size p0_g_Rows p1_order p2_v true else S_spec_LaterNeighbours_j1 F p0_g_Size p0_g_Rows p1_order p2_v (decide (p0_g_Size ≤ p2_v)))))

def S_impl_IsOrder_j1 (F : Nat) (p6 : Bool) : Option (Bool) :=
  some p6

def S_impl_IsOrder (F : Nat) (p0_g_Size : Int) (p0_g_Rows : List Int) (p1_l : List Int) : Option (Bool) :=
  ((S_impl_areVertices F p0_g_Size p0_g_Rows p1_l).bind fun r7 => (if r7 = true then S_impl_IsOrder_j1 F ((p1_l.length : Int) == p0_g_Size) else S_impl_IsOrder_j1 F false))

def S_impl_SetOf_j1 (F : Nat) (x85 : Int) : Option (Int × Bool) :=
  some (x85, true)

def S_impl_SetOf_j3 (F : Nat) (x88 : Int) (x89 : Int) (x152 : Int) (p164 : Bool) : Option ((Int × Int) ⊕ (Int ⊕ (Int × Bool))) :=
  (if p164 = true then some (Sum.inr (Sum.inr (0, false))) else ((nnO x152).bind fun _ => some (Sum.inl ((bOr x88 (shL 1 x152)), (IntKind.i64.wrap (x89 + 1))))))

def S_impl_SetOf_l2 (F : Nat) (p0_l : List Int) (x88 : Int) (x89 : Int) : Option ((Int × Int) ⊕ (Int ⊕ (Int × Bool))) :=
  (if (decide (x89 < (p0_l.length : Int))) = true then ((idxL p0_l x89).bind fun x152 => ((S_impl_within F x152 0 6).bind fun r166 => (if (!r166) = true then S_impl_SetOf_j3 F x88 x89 x152 true else ((S_impl_has F x88 x152).bind fun r167 => S_impl_SetOf_j3 F x88 x89 x152 r167)))) else some (Sum.inr (Sum.inl x88)))

def S_impl_SetOf (F : Nat) (p0_l : List Int) : Option (Int × Bool) :=
  (loopN (σ := (Int × Int)) (β := (Int ⊕ (Int × Bool))) (fun s => S_impl_SetOf_l2 F p0_l s.1 s.2) F (0, 0)).bind (fun b => (match b with | .inl o => S_impl_SetOf_j1 F o | .inr o => some o))

def S_impl_LaterNeighbours_j1 (F : Nat) (p0_g_Rows : List Int) (p1_order : List Int) (p2_v : Int) (p15 : Bool) : Option (Int) :=
  (if p15 = true then some 0 else ((S_slices_Index_int F p1_order p2_v).bind fun r21 => ((slO p1_order.length r21).bind fun _ => ((S_impl_SetOf F (p1_order.drop (r21.toNat))).bind fun r23 => ((idxL p0_g_Rows p2_v).bind fun x26 => some (bAnd x26 r23.1))))))

def S_impl_LaterNeighbours (F : Nat) (p0_g_Size : Int) (p0_g_Rows : List Int) (p1_order : List Int) (p2_v : Int) : Option (Int) :=
  ((S_impl_IsOrder F p0_g_Size p0_g_Rows p1_order).bind fun r27 => (if (!r27) = true then S_impl_LaterNeighbours_j1 F p0_g_Rows p1_order p2_v true else ((S_impl_within F p2_v 0 (IntKind.i64.wrap (p0_g_Size - 1))).bind fun r28 => S_impl_LaterNeighbours_j1 F p0_g_Rows p1_order p2_v (!r28))))

def S_laws_FnExactLaterNeighbours (F : Nat) (p0_aG_Size : Int) (p0_aG_Rows : List Int) (p1_aOrder : List Int) (p2_aV : Int) : Option (Bool) :=
  (if (decide ((1048576 : Int) < (p1_aOrder.length : Int))) = true then some true else ((S_laws_szGraph F p0_aG_Size p0_aG_Rows 1048576).bind fun r12 => (if (decide (r12 < 0)) = true then some true else ((S_laws_toGraph F p0_aG_Size p0_aG_Rows).bind fun r24 => ((S_laws_toIntS F p1_aOrder).bind fun r26 => ((S_spec_LaterNeighbours F r24.1 r24.2 r26 p2_aV).bind fun r28 => ((S_laws_toGraph F p0_aG_Size p0_aG_Rows).bind fun r33 => ((S_laws_toIntS F p1_aOrder).bind fun r39 => ((S_impl_LaterNeighbours F r33.1 r33.2 r39 p2_aV).bind fun r43 => (if (r43 != r28) = true then some false else ((S_laws_toGraph F p0_aG_Size p0_aG_Rows).bind fun r62 => ((S_laws_eqGraph F r33.1 r33.2 r62.1 r62.2).bind fun r64 => (if (!r64) = true then some false else ((S_laws_toIntS F p1_aOrder).bind fun r79 => ((S_laws_eqIntS F r39 r79).bind fun r81 => (if (!r81) = true then some false else some true))))))))))))))))

def S_spec_IsHole_j2 (F : Nat) : Option (Bool) :=
  some true

def S_spec_IsHole_j4 (F : Nat) (x211 : Int) : Option ((Int) ⊕ (Unit ⊕ Bool)) :=
  some (Sum.inl (IntKind.i64.wrap (x211 + 1)))

def S_spec_IsHole_j6 (F : Nat) (x359 : Int) (p399 : Bool) : Option ((Int) ⊕ (Unit ⊕ Bool)) :=
  (if p399 = true then some (Sum.inr (Sum.inr false)) else some (Sum.inl (IntKind.i64.wrap (x359 + 1))))

def S_spec_IsHole_l5 (F : Nat) (p0_g_Size : Int) (p0_g_Rows : List Int) (p1_l : List Int) (x211 : Int) (x359 : Int) : Option ((Int) ⊕ (Unit ⊕ Bool)) :=
  (if (decide (x359 < x211)) = true then ((idxL p1_l x211).bind fun x401 => ((idxL p1_l x359).bind fun x402 => ((S_spec_l2Edge F p0_g_Size p0_g_Rows x401 x402).bind fun r403 => (if (x359 == (IntKind.i64.wrap (x211 - 1))) = true then S_spec_IsHole_j6 F x359 (r403 != true) else (if (x359 == 0) = true then S_spec_IsHole_j6 F x359 (r403 != (x211 == (IntKind.i64.wrap ((p1_l.length : Int) - 1)))) else S_spec_IsHole_j6 F x359 (r403 != false)))))) else some (Sum.inr (Sum.inl ())))

def S_spec_IsHole_l3 (F : Nat) (p0_g_Size : Int) (p0_g_Rows : List Int) (p1_l : List Int) (x211 : Int) : Option ((Int) ⊕ (Unit ⊕ Bool)) :=
  (if (decide (x211 < (p1_l.length : Int))) = true then (loopN (σ := Int) (β := (Unit ⊕ Bool)) (fun s => S_spec_IsHole_l5 F p0_g_Size p0_g_Rows p1_l x211 s) F 0).bind (fun b => (match b with | .inl o => S_spec_IsHole_j4 F x211 | .inr o => some (Sum.inr (Sum.inr o)))) else some (Sum.inr (Sum.inl ())))

def S_spec_IsHole_j1 (F : Nat) (p0_g_Size : Int) (p0_g_Rows : List Int) (p1_l : List Int) (p12 : Bool) : Option (Bool) :=
  (if p12 = true then some false else (loopN (σ := Int) (β := (Unit ⊕ Bool)) (fun s => S_spec_IsHole_l3 F p0_g_Size p0_g_Rows p1_l s) F 0).bind (fun b => (match b with | .inl o => S_spec_IsHole_j2 F | .inr o => some o)))

def S_spec_IsHole (F : Nat) (p0_g_Size : Int) (p0_g_Rows : List Int) (p1_l : List Int) : Option (Bool) :=
  ((S_spec_l4Distinct F p0_g_Size p0_g_Rows p1_l).bind fun r404 => (if (!r404) = true then S_spec_IsHole_j1 F p0_g_Size p0_g_Rows p1_l true else S_spec_IsHole_j1 F p0_g_Size p0_g_Rows p1_l (decide ((p1_l.length : Int) < 4))))

def S_impl_IsHole_c1_j1 (F : Nat) (p3 : Bool) : Option (Bool) :=
  some p3

def S_impl_IsHole_c1 (F : Nat) (p0_i : Int) (p1_k : Int) (q0_v : List Int) : Option (Bool) :=
  (if (p1_k == (IntKind.i64.wrap (p0_i + 1))) = true then S_impl_IsHole_c1_j1 F true else (if (p0_i == 0) = true then S_impl_IsHole_c1_j1 F (p1_k == (IntKind.i64.wrap ((q0_v.length : Int) - 1))) else S_impl_IsHole_c1_j1 F false))

def S_impl_areJoined__IsHolec1_j1 (F : Nat) : Option (Bool) :=
  some true

def S_impl_areJoined__IsHolec1_j3 (F : Nat) (x268 : Int) : Option ((Int) ⊕ (Unit ⊕ Bool)) :=
  some (Sum.inl (IntKind.i64.wrap (x268 + 1)))

def S_impl_areJoined__IsHolec1_l4 (F : Nat) (p0_g_Rows : List Int) (p1_l : List Int) (p2_joined_c0_v : List Int) (x268 : Int) (x460 : Int) : Option ((Int) ⊕ (Unit ⊕ Bool)) :=
  (if (decide (x460 < x268)) = true then ((idxL p1_l x460).bind fun x513 => ((idxL p0_g_Rows x513).bind fun x514 => ((idxL p1_l x268).bind fun x515 => ((S_impl_has F x514 x515).bind fun r516 => ((S_impl_IsHole_c1 F x460 x268 p2_joined_c0_v).bind fun r517 => (if (r516 != r517) = true then some (Sum.inr (Sum.inr false)) else some (Sum.inl (IntKind.i64.wrap (x460 + 1))))))))) else some (Sum.inr (Sum.inl ())))

def S_impl_areJoined__IsHolec1_l2 (F : Nat) (p0_g_Rows : List Int) (p1_l : List Int) (p2_joined_c0_v : List Int) (x268 : Int) : Option ((Int) ⊕ (Unit ⊕ Bool)) :=
  (if (decide (x268 < (p1_l.length : Int))) = true then (loopN (σ := Int) (β := (Unit ⊕ Bool)) (fun s => S_impl_areJoined__IsHolec1_l4 F p0_g_Rows p1_l p2_joined_c0_v x268 s) F 0).bind (fun b => (match b with | .inl o => S_impl_areJoined__IsHolec1_j3 F x268 | .inr o => some (Sum.inr (Sum.inr o)))) else some (Sum.inr (Sum.inl ())))

def S_impl_areJoined__IsHolec1 (F : Nat) (p0_g_Size : Int) (p0_g_Rows : List Int) (p1_l : List Int) (p2_joined_c0_v : List Int) : Option (Bool) :=
  ((S_impl_areVertices F p0_g_Size p0_g_Rows p1_l).bind fun r11 => (if (!r11) = true then some false else (loopN (σ := Int) (β := (Unit ⊕ Bool)) (fun s => S_impl_areJoined__IsHolec1_l2 F p0_g_Rows p1_l p2_joined_c0_v s) F 0).bind (fun b => (match b with | .inl o => S_impl_areJoined__IsHolec1_j1 F | .inr o => some o))))

def S_impl_IsHole_j1 (F : Nat) (p8 : Bool) : Option (Bool) :=
  some p8

def S_impl_IsHole (F : Nat) (p0_g_Size : Int) (p0_g_Rows : List Int) (p1_l : List Int) : Option (Bool) :=
  (if (decide ((4 : Int) ≤ (p1_l.length : Int))) = true then ((S_impl_areJoined__IsHolec1 F p0_g_Size p0_g_Rows p1_l p1_l).bind fun r9 => S_impl_IsHole_j1 F r9) else S_impl_IsHole_j1 F false)

def S_laws_FnExactIsHole (F : Nat) (p0_aG_Size : Int) (p0_aG_Rows : List Int) (p1_aL : List Int) : Option (Bool) :=
  (if (decide ((1048576 : Int) < (p1_aL.length : Int))) = true then some true else ((S_laws_szGraph F p0_aG_Size p0_aG_Rows 1048576).bind fun r12 => (if (decide (r12 < 0)) = true then some true else ((S_laws_toGraph F p0_aG_Size p0_aG_Rows).bind fun r24 => ((S_laws_toIntS F p1_aL).bind fun r26 => ((S_spec_IsHole F r24.1 r24.2 r26).bind fun r28 => ((S_laws_toGraph F p0_aG_Size p0_aG_Rows).bind fun r33 => ((S_laws_toIntS F p1_aL).bind fun r39 => ((S_impl_IsHole F r33.1 r33.2 r39).bind fun r43 => (if (r43 != r28) = true then some false else ((S_laws_toGraph F p0_aG_Size p0_aG_Rows).bind fun r62 => ((S_laws_eqGraph F r33.1 r33.2 r62.1 r62.2).bind fun r64 => (if (!r64) = true then some false else ((S_laws_toIntS F p1_aL).bind fun r79 => ((S_laws_eqIntS F r39 r79).bind fun r81 => (if (!r81) = true then some false else some true))))))))))))))))

def S_spec_IsInducedPath_j2 (F : Nat) : Option (Bool) :=
  some true

def S_spec_IsInducedPath_j4 (F : Nat) (x195 : Int) : Option ((Int) ⊕ (Unit ⊕ Bool)) :=
  some (Sum.inl (IntKind.i64.wrap (x195 + 1)))

def S_spec_IsInducedPath_l5 (F : Nat) (p0_g_Size : Int) (p0_g_Rows : List Int) (p1_l : List Int) (x195 : Int) (x331 : Int) : Option ((Int) ⊕ (Unit ⊕ Bool)) :=
  (if (decide (x331 < x195)) = true then ((idxL p1_l x195).bind fun x368 => ((idxL p1_l x331).bind fun x369 => ((S_spec_l2Edge F p0_g_Size p0_g_Rows x368 x369).bind fun r370 => (if (r370 != (x331 == (IntKind.i64.wrap (x195 - 1)))) = true then some (Sum.inr (Sum.inr false)) else some (Sum.inl (IntKind.i64.wrap (x331 + 1))))))) else some (Sum.inr (Sum.inl ())))

def S_spec_IsInducedPath_l3 (F : Nat) (p0_g_Size : Int) (p0_g_Rows : List Int) (p1_l : List Int) (x195 : Int) : Option ((Int) ⊕ (Unit ⊕ Bool)) :=
  (if (decide (x195 < (p1_l.length : Int))) = true then (loopN (σ := Int) (β := (Unit ⊕ Bool)) (fun s => S_spec_IsInducedPath_l5 F p0_g_Size p0_g_Rows p1_l x195 s) F 0).bind (fun b => (match b with | .inl o => S_spec_IsInducedPath_j4 F x195 | .inr o => some (Sum.inr (Sum.inr o)))) else some (Sum.inr (Sum.inl ())))

def S_spec_IsInducedPath_j1 (F : Nat) (p0_g_Size : Int) (p0_g_Rows : List Int) (p1_l : List Int) (p12 : Bool) : Option (Bool) :=
  (if p12 = true then some false else (loopN (σ := Int) (β := (Unit ⊕ Bool)) (fun s => S_spec_IsInducedPath_l3 F p0_g_Size p0_g_Rows p1_l s) F 0).bind (fun b => (match b with | .inl o => S_spec_IsInducedPath_j2 F | .inr o => some o)))

def S_spec_IsInducedPath (F : Nat) (p0_g_Size : Int) (p0_g_Rows : List Int) (p1_l : List Int) : Option (Bool) :=
  ((S_spec_l4Distinct F p0_g_Size p0_g_Rows p1_l).bind fun r372 => (if (!r372) = true then S_spec_IsInducedPath_j1 F p0_g_Size p0_g_Rows p1_l true else S_spec_IsInducedPath_j1 F p0_g_Size p0_g_Rows p1_l ((p1_l.length : Int) == 0)))

def S_impl_IsInducedPath_c1 (F : Nat) (p0_i : Int) (p1_k : Int) : Option (Bool) :=
  some (p1_k == (IntKind.i64.wrap (p0_i + 1)))

def S_impl_areJoined__IsInducedPathc1_j1 (F : Nat) : Option (Bool) :=
  some true

def S_impl_areJoined__IsInducedPathc1_j3 (F : Nat) (x268 : Int) : Option ((Int) ⊕ (Unit ⊕ Bool)) :=
  some (Sum.inl (IntKind.i64.wrap (x268 + 1)))

def S_impl_areJoined__IsInducedPathc1_l4 (F : Nat) (p0_g_Rows : List Int) (p1_l : List Int) (x268 : Int) (x460 : Int) : Option ((Int) ⊕ (Unit ⊕ Bool)) :=
  (if (decide (x460 < x268)) = true then ((idxL p1_l x460).bind fun x513 => ((idxL p0_g_Rows x513).bind fun x514 => ((idxL p1_l x268).bind fun x515 => ((S_impl_has F x514 x515).bind fun r516 => ((S_impl_IsInducedPath_c1 F x460 x268).bind fun r517 => (if (r516 != r517) = true then some (Sum.inr (Sum.inr false)) else some (Sum.inl (IntKind.i64.wrap (x460 + 1))))))))) else some (Sum.inr (Sum.inl ())))

def S_impl_areJoined__IsInducedPathc1_l2 (F : Nat) (p0_g_Rows : List Int) (p1_l : List Int) (x268 : Int) : Option ((Int) ⊕ (Unit ⊕ Bool)) :=
  (if (decide (x268 < (p1_l.length : Int))) = true then (loopN (σ := Int) (β := (Unit ⊕ Bool)) (fun s => S_impl_areJoined__IsInducedPathc1_l4 F p0_g_Rows p1_l x268 s) F 0).bind (fun b => (match b with | .inl o => S_impl_areJoined__IsInducedPathc1_j3 F x268 | .inr o => some (Sum.inr (Sum.inr o)))) else some (Sum.inr (Sum.inl ())))

def S_impl_areJoined__IsInducedPathc1 (F : Nat) (p0_g_Size : Int) (p0_g_Rows : List Int) (p1_l : List Int) : Option (Bool) :=
  ((S_impl_areVertices F p0_g_Size p0_g_Rows p1_l).bind fun r11 => (if (!r11) = true then some false else (loopN (σ := Int) (β := (Unit ⊕ Bool)) (fun s => S_impl_areJoined__IsInducedPathc1_l2 F p0_g_Rows p1_l s) F 0).bind (fun b => (match b with | .inl o => S_impl_areJoined__IsInducedPathc1_j1 F | .inr o => some o))))

def S_impl_IsInducedPath_j1 (F : Nat) (p6 : Bool) : Option (Bool) :=
  some p6

def S_impl_IsInducedPath (F : Nat) (p0_g_Size : Int) (p0_g_Rows : List Int) (p1_l : List Int) : Option (Bool) :=
  (if (decide ((0 : Int) < (p1_l.length : Int))) = true then ((S_impl_areJoined__IsInducedPathc1 F p0_g_Size p0_g_Rows p1_l).bind fun r7 => S_impl_IsInducedPath_j1 F r7) else S_impl_IsInducedPath_j1 F false)

def S_laws_FnExactIsInducedPath (F : Nat) (p0_aG_Size : Int) (p0_aG_Rows : List Int) (p1_aL : List Int) : Option (Bool) :=
  (if (decide ((1048576 : Int) < (p1_aL.length : Int))) = true then some true else ((S_laws_szGraph F p0_aG_Size p0_aG_Rows 1048576).bind fun r12 => (if (decide (r12 < 0)) = true then some true else ((S_laws_toGraph F p0_aG_Size p0_aG_Rows).bind fun r24 => ((S_laws_toIntS F p1_aL).bind fun r26 => ((S_spec_IsInducedPath F r24.1 r24.2 r26).bind fun r28 => ((S_laws_toGraph F p0_aG_Size p0_aG_Rows).bind fun r33 => ((S_laws_toIntS F p1_aL).bind fun r39 => ((S_impl_IsInducedPath F r33.1 r33.2 r39).bind fun r43 => (if (r43 != r28) = true then some false else ((S_laws_toGraph F p0_aG_Size p0_aG_Rows).bind fun r62 => ((S_laws_eqGraph F r33.1 r33.2 r62.1 r62.2).bind fun r64 => (if (!r64) = true then some false else ((S_laws_toIntS F p1_aL).bind fun r79 => ((S_laws_eqIntS F r39 r79).bind fun r81 => (if (!r81) = true then some false else some true))))))))))))))))

def S_spec_l2Copy (F : Nat) (p0_g_Size : Int) (p0_g_Rows : List Int) : Option (Int × (List (Int))) :=
  ((catO ([] : List (Int)).length p0_g_Rows.length).bind fun _ => some (p0_g_Size, (([] : List (Int)) ++ p0_g_Rows)))

def S_spec_l2Pair_j1 (F : Nat) (p6 : Bool) : Option (Bool) :=
  some p6

def S_spec_l2Pair (F : Nat) (p0_g_Size : Int) (p0_g_Rows : List Int) (p1_v : Int) (p2_w : Int) : Option (Bool) :=
  ((S_spec_IsGraph F p0_g_Size p0_g_Rows).bind fun r7 => (if r7 = true then (if (decide ((0 : Int) ≤ p1_v)) = true then (if (decide ((0 : Int) ≤ p2_w)) = true then (if (decide (p1_v < p0_g_Size)) = true then (if (decide (p2_w < p0_g_Size)) = true then S_spec_l2Pair_j1 F (p1_v != p2_w) else S_spec_l2Pair_j1 F false) else S_spec_l2Pair_j1 F false) else S_spec_l2Pair_j1 F false) else S_spec_l2Pair_j1 F false) else S_spec_l2Pair_j1 F false))

def S_spec_AddEdge_j1 (F : Nat) (p1_v : Int) (p2_w : Int) (r10 : Int × (List (Int))) (p24 : Bool) : Option (Int × (List (Int)) × Bool) :=
  (if p24 = true then some (r10.1, r10.2, false) else ((idxL r10.2 p1_v).bind fun x29 => ((nnO p2_w).bind fun _ => ((idxL r10.2 p1_v).bind fun x30 => ((idxL (r10.2.set (p1_v.toNat) (IntKind.i64.wrap (x29 + (shL 1 p2_w)))) p2_w).bind fun x34 => ((nnO p1_v).bind fun _ => ((idxL (r10.2.set (p1_v.toNat) (IntKind.i64.wrap (x29 + (shL 1 p2_w)))) p2_w).bind fun x35 => some (r10.1, ((r10.2.set (p1_v.toNat) (IntKind.i64.wrap (x29 + (shL 1 p2_w)))).set (p2_w.toNat) (IntKind.i64.wrap (x34 + (shL 1 p1_v)))), true))))))))

def S_spec_AddEdge (F : Nat) (p0_g_Size : Int) (p0_g_Rows : List Int) (p1_v : Int) (p2_w : Int) : Option (Int × (List (Int)) × Bool) :=
  ((S_spec_l2Copy F p0_g_Size p0_g_Rows).bind fun r10 => ((S_spec_l2Pair F p0_g_Size p0_g_Rows p1_v p2_w).bind fun r37 => (if (!r37) = true then S_spec_AddEdge_j1 F p1_v p2_w r10 true else ((S_spec_l2Edge F p0_g_Size p0_g_Rows p1_v p2_w).bind fun r38 => S_spec_AddEdge_j1 F p1_v p2_w r10 r38))))

def S_impl_isVertex_j1 (F : Nat) (p0_g_Size : Int) (p0_g_Rows : List Int) : Option (Bool) :=
  ((S_impl_IsGraph F p0_g_Size p0_g_Rows).bind fun r43 => some r43)

def S_impl_isVertex_l2 (F : Nat) (p0_g_Size : Int) (p1_vertices : List Int) (x45 : Int) : Option ((Int) ⊕ (Unit ⊕ Bool)) :=
  (if (decide (x45 < (p1_vertices.length : Int))) = true then ((idxL p1_vertices x45).bind fun x75 => ((S_impl_within F x75 0 (IntKind.i64.wrap (p0_g_Size - 1))).bind fun r78 => (if (!r78) = true then some (Sum.inr (Sum.inr false)) else some (Sum.inl (IntKind.i64.wrap (x45 + 1)))))) else some (Sum.inr (Sum.inl ())))

def S_impl_isVertex (F : Nat) (p0_g_Size : Int) (p0_g_Rows : List Int) (p1_vertices : List Int) : Option (Bool) :=
  (loopN (σ := Int) (β := (Unit ⊕ Bool)) (fun s => S_impl_isVertex_l2 F p0_g_Size p1_vertices s) F 0).bind (fun b => (match b with | .inl o => S_impl_isVertex_j1 F p0_g_Size p0_g_Rows | .inr o => some o))

def S_impl_flip (F : Nat) (p0_g_Size : Int) (p0_g_Rows : List Int) (p1_v : Int) (p2_w : Int) : Option ((List (Int))) :=
  ((idxL p0_g_Rows p1_v).bind fun x7 => ((nnO p2_w).bind fun _ => ((idxL p0_g_Rows p1_v).bind fun x8 => ((idxL (p0_g_Rows.set (p1_v.toNat) (bXor x7 (shL 1 p2_w))) p2_w).bind fun x9 => ((nnO p1_v).bind fun _ => ((idxL (p0_g_Rows.set (p1_v.toNat) (bXor x7 (shL 1 p2_w))) p2_w).bind fun x10 => some ((p0_g_Rows.set (p1_v.toNat) (bXor x7 (shL 1 p2_w))).set (p2_w.toNat) (bXor x9 (shL 1 p1_v)))))))))

def S_impl_AddEdge_j1 (F : Nat) (p1_v : Int) (p2_w : Int) (r10 : Int × (List (Int))) (p30 : Bool) : Option (Int × (List (Int)) × Bool) :=
  (if p30 = true then some (r10.1, r10.2, false) else ((S_impl_flip F r10.1 r10.2 p1_v p2_w).bind fun r34 => some (r10.1, r34, true)))

def S_impl_AddEdge (F : Nat) (p0_g_Size : Int) (p0_g_Rows : List Int) (p1_v : Int) (p2_w : Int) : Option (Int × (List (Int)) × Bool) :=
  ((S_impl_copyGraph F p0_g_Size p0_g_Rows).bind fun r10 => ((S_impl_isVertex F p0_g_Size p0_g_Rows ([p1_v, p2_w] : List (Int))).bind fun r37 => (if (!r37) = true then S_impl_AddEdge_j1 F p1_v p2_w r10 true else (if (p1_v == p2_w) = true then S_impl_AddEdge_j1 F p1_v p2_w r10 true else ((idxL p0_g_Rows p1_v).bind fun x38 => ((S_impl_has F x38 p2_w).bind fun r39 => S_impl_AddEdge_j1 F p1_v p2_w r10 r39))))))

def S_laws_FnExactAddEdge_j3 (F : Nat) (r35 : Int × (List (Int)) × Bool) (r82 : Int × (List (Int))) (p116 : Bool) : Option (Bool) :=
  (if p116 = true then some false else ((S_laws_heldGraph F r35.1 r82.2 1).bind fun r121 => (if (decide (r121 < 0)) = true then some false else (if (r121 != r82.1) = true then some false else some true))))

def S_laws_FnExactAddEdge_j2 (F : Nat) (p0_aG_Size : Int) (p0_aG_Rows : List Int) (p1_aV : Int) (p2_aW : Int) (r21 : Int × (List (Int)) × Bool) (r35 : Int × (List (Int)) × Bool) (p77 : Bool) : Option (Bool) :=
  (if p77 = true then some false else ((S_laws_markGraph F r35.1 r35.2.1 1).bind fun r82 => ((S_laws_heldGraph F r35.1 r82.2 1).bind fun r86 => (if (decide (r86 < 0)) = true then some false else (if (r86 != r82.1) = true then some false else ((S_laws_toGraph F p0_aG_Size p0_aG_Rows).bind fun r103 => ((S_impl_AddEdge F r103.1 r103.2 p1_aV p2_aW).bind fun r105 => ((S_laws_eqGraph F r105.1 r105.2.1 r21.1 r21.2.1).bind fun r133 => (if (!r133) = true then S_laws_FnExactAddEdge_j3 F r35 r82 true else S_laws_FnExactAddEdge_j3 F r35 r82 (r105.2.2 != r21.2.2))))))))))

def S_laws_FnExactAddEdge_j1 (F : Nat) (p0_aG_Size : Int) (p0_aG_Rows : List Int) (p1_aV : Int) (p2_aW : Int) (r21 : Int × (List (Int)) × Bool) (r28 : Int × (List (Int))) (r35 : Int × (List (Int)) × Bool) (p46 : Bool) : Option (Bool) :=
  (if p46 = true then some false else ((S_laws_toGraph F p0_aG_Size p0_aG_Rows).bind fun r61 => ((S_laws_eqGraph F r28.1 r28.2 r61.1 r61.2).bind fun r63 => (if (!r63) = true then some false else ((S_laws_markGraph F r28.1 r28.2 1).bind fun r68 => (if (decide (r68.1 < 0)) = true then S_laws_FnExactAddEdge_j2 F p0_aG_Size p0_aG_Rows p1_aV p2_aW r21 r35 true else ((S_laws_eqGraph F r35.1 r35.2.1 r21.1 r21.2.1).bind fun r134 => (if (!r134) = true then S_laws_FnExactAddEdge_j2 F p0_aG_Size p0_aG_Rows p1_aV p2_aW r21 r35 true else S_laws_FnExactAddEdge_j2 F p0_aG_Size p0_aG_Rows p1_aV p2_aW r21 r35 (r35.2.2 != r21.2.2)))))))))

def S_laws_FnExactAddEdge (F : Nat) (p0_aG_Size : Int) (p0_aG_Rows : List Int) (p1_aV : Int) (p2_aW : Int) : Option (Bool) :=
  ((S_laws_szGraph F p0_aG_Size p0_aG_Rows 1048576).bind fun r7 => (if (decide (r7 < 0)) = true then some true else ((S_laws_toGraph F p0_aG_Size p0_aG_Rows).bind fun r19 => ((S_spec_AddEdge F r19.1 r19.2 p1_aV p2_aW).bind fun r21 => ((S_laws_toGraph F p0_aG_Size p0_aG_Rows).bind fun r28 => ((S_impl_AddEdge F r28.1 r28.2 p1_aV p2_aW).bind fun r35 => ((S_laws_eqGraph F r35.1 r35.2.1 r21.1 r21.2.1).bind fun r135 => (if (!r135) = true then S_laws_FnExactAddEdge_j1 F p0_aG_Size p0_aG_Rows p1_aV p2_aW r21 r28 r35 true else S_laws_FnExactAddEdge_j1 F p0_aG_Size p0_aG_Rows p1_aV p2_aW r21 r28 r35 (r35.2.2 != r21.2.2)))))))))

def S_spec_RemoveEdge_j1 (F : Nat) (p1_v : Int) (p2_w : Int) (r10 : Int × (List (Int))) (p24 : Bool) : Option (Int × (List (Int)) × Bool) :=
  (if p24 = true then some (r10.1, r10.2, false) else ((idxL r10.2 p1_v).bind fun x29 => ((nnO p2_w).bind fun _ => ((idxL r10.2 p1_v).bind fun x30 => ((idxL (r10.2.set (p1_v.toNat) (IntKind.i64.wrap (x29 - (shL 1 p2_w)))) p2_w).bind fun x34 => ((nnO p1_v).bind fun _ => ((idxL (r10.2.set (p1_v.toNat) (IntKind.i64.wrap (x29 - (shL 1 p2_w)))) p2_w).bind fun x35 => some (r10.1, ((r10.2.set (p1_v.toNat) (IntKind.i64.wrap (x29 - (shL 1 p2_w)))).set (p2_w.toNat) (IntKind.i64.wrap (x34 - (shL 1 p1_v)))), true))))))))

def S_spec_RemoveEdge (F : Nat) (p0_g_Size : Int) (p0_g_Rows : List Int) (p1_v : Int) (p2_w : Int) : Option (Int × (List (Int)) × Bool) :=
  ((S_spec_l2Copy F p0_g_Size p0_g_Rows).bind fun r10 => ((S_spec_l2Pair F p0_g_Size p0_g_Rows p1_v p2_w).bind fun r37 => (if (!r37) = true then S_spec_RemoveEdge_j1 F p1_v p2_w r10 true else ((S_spec_l2Edge F p0_g_Size p0_g_Rows p1_v p2_w).bind fun r38 => S_spec_RemoveEdge_j1 F p1_v p2_w r10 (!r38)))))

def S_impl_HasEdge_j1 (F : Nat) (p9 : Bool) : Option (Bool) :=
  some p9

def S_impl_HasEdge (F : Nat) (p0_g_Size : Int) (p0_g_Rows : List Int) (p1_v : Int) (p2_w : Int) : Option (Bool) :=
  ((S_impl_isVertex F p0_g_Size p0_g_Rows ([p1_v, p2_w] : List (Int))).bind fun r11 => (if r11 = true then ((idxL p0_g_Rows p1_v).bind fun x12 => ((S_impl_has F x12 p2_w).bind fun r13 => S_impl_HasEdge_j1 F r13)) else S_impl_HasEdge_j1 F false))

def S_impl_RemoveEdge (F : Nat) (p0_g_Size : Int) (p0_g_Rows : List Int) (p1_v : Int) (p2_w : Int) : Option (Int × (List (Int)) × Bool) :=
  ((S_impl_copyGraph F p0_g_Size p0_g_Rows).bind fun r10 => ((S_impl_HasEdge F p0_g_Size p0_g_Rows p1_v p2_w).bind fun r20 => (if (!r20) = true then some (r10.1, r10.2, false) else ((S_impl_flip F r10.1 r10.2 p1_v p2_w).bind fun r24 => some (r10.1, r24, true)))))

def S_laws_FnExactRemoveEdge_j3 (F : Nat) (r35 : Int × (List (Int)) × Bool) (r82 : Int × (List (Int))) (p116 : Bool) : Option (Bool) :=
  (if p116 = true then some false else ((S_laws_heldGraph F r35.1 r82.2 1).bind fun r121 => (if (decide (r121 < 0)) = true then some false else (if (r121 != r82.1) = true then some false else some true))))

def S_laws_FnExactRemoveEdge_j2 (F : Nat) (p0_aG_Size : Int) (p0_aG_Rows : List Int) (p1_aV : Int) (p2_aW : Int) (r21 : Int × (List (Int)) × Bool) (r35 : Int × (List (Int)) × Bool) (p77 : Bool) : Option (Bool) :=
  (if p77 = true then some false else ((S_laws_markGraph F r35.1 r35.2.1 1).bind fun r82 => ((S_laws_heldGraph F r35.1 r82.2 1).bind fun r86 => (if (decide (r86 < 0)) = true then some false else (if (r86 != r82.1) = true then some false else ((S_laws_toGraph F p0_aG_Size p0_aG_Rows).bind fun r103 => ((S_impl_RemoveEdge F r103.1 r103.2 p1_aV p2_aW).bind fun r105 => ((S_laws_eqGraph F r105.1 r105.2.1 r21.1 r21.2.1).bind fun r133 => (if (!r133) = true then S_laws_FnExactRemoveEdge_j3 F r35 r82 true else S_laws_FnExactRemoveEdge_j3 F r35 r82 (r105.2.2 != r21.2.2))))))))))

def S_laws_FnExactRemoveEdge_j1 (F : Nat) (p0_aG_Size : Int) (p0_aG_Rows : List Int) (p1_aV : Int) (p2_aW : Int) (r21 : Int × (List (Int)) × Bool) (r28 : Int × (List (Int))) (r35 : Int × (List (Int)) × Bool) (p46 : Bool) : Option (Bool) :=
  (if p46 = true then some false else ((S_laws_toGraph F p0_aG_Size p0_aG_Rows).bind fun r61 => ((S_laws_eqGraph F r28.1 r28.2 r61.1 r61.2).bind fun r63 => (if (!r63) = true then some false else ((S_laws_markGraph F r28.1 r28.2 1).bind fun r68 => (if (decide (r68.1 < 0)) = true then S_laws_FnExactRemoveEdge_j2 F p0_aG_Size p0_aG_Rows p1_aV p2_aW r21 r35 true else ((S_laws_eqGraph F r35.1 r35.2.1 r21.1 r21.2.1).bind fun r134 => (if (!r134) = true then S_laws_FnExactRemoveEdge_j2 F p0_aG_Size p0_aG_Rows p1_aV p2_aW r21 r35 true else S_laws_FnExactRemoveEdge_j2 F p0_aG_Size p0_aG_Rows p1_aV p2_aW r21 r35 (r35.2.2 != r21.2.2)))))))))

def S_laws_FnExactRemoveEdge (F : Nat) (p0_aG_Size : Int) (p0_aG_Rows : List Int) (p1_aV : Int) (p2_aW : Int) : Option (Bool) :=
  ((S_laws_szGraph F p0_aG_Size p0_aG_Rows 1048576).bind fun r7 => (if (decide (r7 < 0)) = true then some true else ((S_laws_toGraph F p0_aG_Size p0_aG_Rows).bind fun r19 => ((S_spec_RemoveEdge F r19.1 r19.2 p1_aV p2_aW).bind fun r21 => ((S_laws_toGraph F p0_aG_Size p0_aG_Rows).bind fun r28 => ((S_impl_RemoveEdge F r28.1 r28.2 p1_aV p2_aW).bind fun r35 => ((S_laws_eqGraph F r35.1 r35.2.1 r21.1 r21.2.1).bind fun r135 => (if (!r135) = true then S_laws_FnExactRemoveEdge_j1 F p0_aG_Size p0_aG_Rows p1_aV p2_aW r21 r28 r35 true else S_laws_FnExactRemoveEdge_j1 F p0_aG_Size p0_aG_Rows p1_aV p2_aW r21 r28 r35 (r35.2.2 != r21.2.2)))))))))

def S_spec_DistanceOf_j2 (F : Nat) : Option (Int) :=
  some (-1)

def S_spec_DistanceOf_l3 (F : Nat) (p0_g_Size : Int) (p0_g_Rows : List Int) (p2_w : Int) (x53 : Int) (x54 : Int) : Option ((Int × Int) ⊕ (Unit ⊕ Int)) :=
  (if (decide (x54 < p0_g_Size)) = true then ((nnO p2_w).bind fun _ => (if ((bAnd (shR x53 p2_w) 1) == 1) = true then some (Sum.inr (Sum.inr x54)) else ((S_spec_AroundSet F p0_g_Size p0_g_Rows x53).bind fun r86 => some (Sum.inl (r86, (IntKind.i64.wrap (x54 + 1))))))) else some (Sum.inr (Sum.inl ())))

def S_spec_DistanceOf_j1 (F : Nat) (p0_g_Size : Int) (p0_g_Rows : List Int) (p1_v : Int) (p2_w : Int) (p12 : Bool) : Option (Int) :=
  (if p12 = true then some (-1) else ((nnO p1_v).bind fun _ => (loopN (σ := (Int × Int)) (β := (Unit ⊕ Int)) (fun s => S_spec_DistanceOf_l3 F p0_g_Size p0_g_Rows p2_w s.1 s.2) F ((shL 1 p1_v), 0)).bind (fun b => (match b with | .inl o => S_spec_DistanceOf_j2 F | .inr o => some o))))

def S_spec_DistanceOf (F : Nat) (p0_g_Size : Int) (p0_g_Rows : List Int) (p1_v : Int) (p2_w : Int) : Option (Int) :=
  ((S_spec_IsGraph F p0_g_Size p0_g_Rows).bind fun r87 => (if (!r87) = true then S_spec_DistanceOf_j1 F p0_g_Size p0_g_Rows p1_v p2_w true else (if (decide (p1_v < 0)) = true then S_spec_DistanceOf_j1 F p0_g_Size p0_g_Rows p1_v p2_w true else (if (decide (p2_w < 0)) = true then S_spec_DistanceOf_j1 F p0_g_Size p0_g_Rows p1_v p2_w true else (if (decide (p0_g_Size ≤ p1_v)) = true then S_spec_DistanceOf_j1 F p0_g_Size p0_g_Rows p1_v p2_w true else S_spec_DistanceOf_j1 F p0_g_Size p0_g_Rows p1_v p2_w (decide (p0_g_Size ≤ p2_w)))))))

def S_impl_DistanceOf_j1 (F : Nat) (x53 : Int) : Option (Int) :=
  some x53

def S_impl_DistanceOf_l2 (F : Nat) (p0_g_Size : Int) (p0_g_Rows : List Int) (p2_w : Int) (x55 : Int) (x56 : Int) : Option ((Int × Int) ⊕ (Int ⊕ Int)) :=
  ((S_impl_has F x55 p2_w).bind fun r79 => (if (!r79) = true then ((S_impl_neighbors F p0_g_Size p0_g_Rows x55).bind fun r82 => (if ((bOr x55 r82) == x55) = true then some (Sum.inr (Sum.inr (-1))) else some (Sum.inl ((bOr x55 r82), (IntKind.i64.wrap (x56 + 1)))))) else some (Sum.inr (Sum.inl x56))))

def S_impl_DistanceOf (F : Nat) (p0_g_Size : Int) (p0_g_Rows : List Int) (p1_v : Int) (p2_w : Int) : Option (Int) :=
  ((S_impl_isVertex F p0_g_Size p0_g_Rows ([p1_v, p2_w] : List (Int))).bind fun r15 => (if (!r15) = true then some (-1) else ((nnO p1_v).bind fun _ => (loopN (σ := (Int × Int)) (β := (Int ⊕ Int)) (fun s => S_impl_DistanceOf_l2 F p0_g_Size p0_g_Rows p2_w s.1 s.2) F ((shL 1 p1_v), 0)).bind (fun b => (match b with | .inl o => S_impl_DistanceOf_j1 F o | .inr o => some o)))))

def S_laws_FnExactDistanceOf (F : Nat) (p0_aG_Size : Int) (p0_aG_Rows : List Int) (p1_aV : Int) (p2_aW : Int) : Option (Bool) :=
  ((S_laws_szGraph F p0_aG_Size p0_aG_Rows 1048576).bind fun r7 => (if (decide (r7 < 0)) = true then some true else ((S_laws_toGraph F p0_aG_Size p0_aG_Rows).bind fun r17 => ((S_spec_DistanceOf F r17.1 r17.2 p1_aV p2_aW).bind fun r19 => ((S_laws_toGraph F p0_aG_Size p0_aG_Rows).bind fun r24 => ((S_impl_DistanceOf F r24.1 r24.2 p1_aV p2_aW).bind fun r29 => (if (r29 != r19) = true then some false else ((S_laws_toGraph F p0_aG_Size p0_aG_Rows).bind fun r48 => ((S_laws_eqGraph F r24.1 r24.2 r48.1 r48.2).bind fun r50 => (if (!r50) = true then some false else some true))))))))))

def S_spec_EdgesOf_j1 (F : Nat) (l213 : List (List Int)) : Option ((List (List Int))) :=
  some l213

def S_spec_EdgesOf_j4 (F : Nat) (x219 : Int) (l373 : List (List Int)) : Option (((List (List Int)) × Int) ⊕ (((List (List Int))))) :=
  some (Sum.inl (l373, (IntKind.i64.wrap (x219 + 1))))

def S_spec_EdgesOf_j6 (F : Nat) (x378 : Int) (l410 : List (List Int)) : Option (((List (List Int)) × Int) ⊕ (((List (List Int))))) :=
  some (Sum.inl (l410, (IntKind.i64.wrap (x378 + 1))))

def S_spec_EdgesOf_l5 (F : Nat) (p0_g_Size : Int) (p0_g_Rows : List Int) (x219 : Int) (l377 : List (List Int)) (x378 : Int) : Option (((List (List Int)) × Int) ⊕ (((List (List Int))))) :=
  (if (decide (x378 < p0_g_Size)) = true then ((S_spec_l2Edge F p0_g_Size p0_g_Rows x219 x378).bind fun r413 => (if r413 = true then ((catO l377.length ([([x219, x378] : List (Int))] : List (List Int)).length).bind fun _ => S_spec_EdgesOf_j6 F x378 (l377 ++ ([([x219, x378] : List (Int))] : List (List Int)))) else S_spec_EdgesOf_j6 F x378 l377)) else some (Sum.inr l377))

def S_spec_EdgesOf_j3 (F : Nat) (p0_g_Size : Int) (p0_g_Rows : List Int) (l218 : List (List Int)) (x219 : Int) (p326 : Bool) : Option (((List (List Int)) × Int) ⊕ (((List (List Int))))) :=
  (if p326 = true then (loopN (σ := ((List (List Int)) × Int)) (β := (((List (List Int))))) (fun s => S_spec_EdgesOf_l5 F p0_g_Size p0_g_Rows x219 s.1 s.2) F (l218, (IntKind.i64.wrap (x219 + 1)))).bind (fun b => S_spec_EdgesOf_j4 F x219 b) else some (Sum.inr l218))

def S_spec_EdgesOf_l2 (F : Nat) (p0_g_Size : Int) (p0_g_Rows : List Int) (l218 : List (List Int)) (x219 : Int) : Option (((List (List Int)) × Int) ⊕ (((List (List Int))))) :=
  (if (decide (x219 < p0_g_Size)) = true then ((S_spec_IsGraph F p0_g_Size p0_g_Rows).bind fun r417 => S_spec_EdgesOf_j3 F p0_g_Size p0_g_Rows l218 x219 r417) else S_spec_EdgesOf_j3 F p0_g_Size p0_g_Rows l218 x219 false)

def S_spec_EdgesOf (F : Nat) (p0_g_Size : Int) (p0_g_Rows : List Int) : Option ((List (List Int))) :=
  (loopN (σ := ((List (List Int)) × Int)) (β := (((List (List Int))))) (fun s => S_spec_EdgesOf_l2 F p0_g_Size p0_g_Rows s.1 s.2) F (([] : List (List Int)), 0)).bind (fun b => S_spec_EdgesOf_j1 F b)

def S_impl_EdgesOf_j1 (F : Nat) (l220 : List (List Int)) : Option ((List (List Int))) :=
  some l220

def S_impl_EdgesOf_j3 (F : Nat) (x226 : Int) (l376 : List (List Int)) : Option (((List (List Int)) × Int) ⊕ (((List (List Int))))) :=
  some (Sum.inl (l376, (IntKind.i64.wrap (x226 + 1))))

def S_impl_EdgesOf_j5 (F : Nat) (x384 : Int) (l416 : List (List Int)) : Option (((List (List Int)) × Int) ⊕ (((List (List Int))))) :=
  some (Sum.inl (l416, (IntKind.i64.wrap (x384 + 1))))

def S_impl_EdgesOf_l4 (F : Nat) (p0_g_Size : Int) (x226 : Int) (x379 : Int) (l383 : List (List Int)) (x384 : Int) : Option (((List (List Int)) × Int) ⊕ (((List (List Int))))) :=
  (if (decide (x384 < p0_g_Size)) = true then ((S_impl_has F x379 x384).bind fun r419 => (if r419 = true then ((catO l383.length ([([x226, x384] : List (Int))] : List (List Int)).length).bind fun _ => S_impl_EdgesOf_j5 F x384 (l383 ++ ([([x226, x384] : List (Int))] : List (List Int)))) else S_impl_EdgesOf_j5 F x384 l383)) else some (Sum.inr l383))

def S_impl_EdgesOf_l2 (F : Nat) (p0_g_Size : Int) (p0_g_Rows : List Int) (l225 : List (List Int)) (x226 : Int) : Option (((List (List Int)) × Int) ⊕ (((List (List Int))))) :=
  (if (decide (x226 < (p0_g_Rows.length : Int))) = true then ((idxL p0_g_Rows x226).bind fun x379 => (loopN (σ := ((List (List Int)) × Int)) (β := (((List (List Int))))) (fun s => S_impl_EdgesOf_l4 F p0_g_Size x226 x379 s.1 s.2) F (l225, (IntKind.i64.wrap (x226 + 1)))).bind (fun b => S_impl_EdgesOf_j3 F x226 b)) else some (Sum.inr l225))

def S_impl_EdgesOf (F : Nat) (p0_g_Size : Int) (p0_g_Rows : List Int) : Option ((List (List Int))) :=
  ((S_impl_IsGraph F p0_g_Size p0_g_Rows).bind fun r14 => (if (!r14) = true then some ([] : List (List Int)) else (loopN (σ := ((List (List Int)) × Int)) (β := (((List (List Int))))) (fun s => S_impl_EdgesOf_l2 F p0_g_Size p0_g_Rows s.1 s.2) F (([] : List (List Int)), 0)).bind (fun b => S_impl_EdgesOf_j1 F b)))

def S_laws_eqIntSS_j1 (F : Nat) : Option (Bool) :=
  some true

def S_laws_eqIntSS_l2 (F : Nat) (p0_a : List (List Int)) (p1_b : List (List Int)) (x68 : Int) : Option ((Int) ⊕ (Unit ⊕ Bool)) :=
  (if (decide (x68 < (p0_a.length : Int))) = true then ((idxL p0_a x68).bind fun x119 => ((idxL p1_b x68).bind fun x121 => ((S_laws_eqIntS F x119 x121).bind fun r123 => (if (!r123) = true then some (Sum.inr (Sum.inr false)) else some (Sum.inl (IntKind.i64.wrap (x68 + 1))))))) else some (Sum.inr (Sum.inl ())))

def S_laws_eqIntSS (F : Nat) (p0_a : List (List Int)) (p1_b : List (List Int)) : Option (Bool) :=
  (if ((p0_a.length : Int) != (p1_b.length : Int)) = true then some false else (loopN (σ := Int) (β := (Unit ⊕ Bool)) (fun s => S_laws_eqIntSS_l2 F p0_a p1_b s) F 0).bind (fun b => (match b with | .inl o => S_laws_eqIntSS_j1 F | .inr o => some o)))

def S_laws_markIntSS_j1 (F : Nat) (x39 : Int) (l40 : List (List Int)) : Option (Int × (List (List Int))) :=
  some (x39, l40)

def S_laws_markIntSS_l2 (F : Nat) (l55 : List (List Int)) (x56 : Int) (x57 : Int) : Option (((List (List Int)) × Int × Int) ⊕ ((Int × (List (List Int))))) :=
  (if (decide (x57 < (l55.length : Int))) = true then ((idxL l55 x57).bind fun x75 => ((S_laws_markIntS F x75 x56).bind fun r77 => some (Sum.inl ((l55.set (x57.toNat) r77.2), r77.1, (IntKind.i64.wrap (x57 + 1)))))) else some (Sum.inr (x56, l55)))

def S_laws_markIntSS (F : Nat) (p0_a : List (List Int)) (p1_k : Int) : Option (Int × (List (List Int))) :=
  (loopN (σ := ((List (List Int)) × Int × Int)) (β := ((Int × (List (List Int))))) (fun s => S_laws_markIntSS_l2 F s.1 s.2.1 s.2.2) F (p0_a, p1_k, 0)).bind (fun b => S_laws_markIntSS_j1 F b.1 b.2)

def S_laws_heldIntSS_j1 (F : Nat) (x50 : Int) : Option (Int) :=
  some x50

def S_laws_heldIntSS_l2 (F : Nat) (p0_a : List (List Int)) (x53 : Int) (x54 : Int) : Option ((Int × Int) ⊕ (Int ⊕ Int)) :=
  (if (decide (x54 < (p0_a.length : Int))) = true then ((idxL p0_a x54).bind fun x94 => ((S_laws_heldIntS F x94 x53).bind fun r96 => (if (decide (r96 < 0)) = true then some (Sum.inr (Sum.inr (-1))) else some (Sum.inl (r96, (IntKind.i64.wrap (x54 + 1))))))) else some (Sum.inr (Sum.inl x53)))

def S_laws_heldIntSS (F : Nat) (p0_a : List (List Int)) (p1_k : Int) : Option (Int) :=
  (loopN (σ := (Int × Int)) (β := (Int ⊕ Int)) (fun s => S_laws_heldIntSS_l2 F p0_a s.1 s.2) F (p1_k, 0)).bind (fun b => (match b with | .inl o => S_laws_heldIntSS_j1 F o | .inr o => some o))

def S_laws_FnExactEdgesOf_j1 (F : Nat) (p0_aG_Size : Int) (p0_aG_Rows : List Int) (r21 : (List (List Int))) (r35 : (List (List Int))) (p76 : Bool) : Option (Bool) :=
  (if p76 = true then some false else ((S_laws_markIntSS F r35 1).bind fun r81 => ((S_laws_heldIntSS F r81.2 1).bind fun r85 => (if (decide (r85 < 0)) = true then some false else (if (r85 != r81.1) = true then some false else ((S_laws_toGraph F p0_aG_Size p0_aG_Rows).bind fun r102 => ((S_impl_EdgesOf F r102.1 r102.2).bind fun r104 => ((S_laws_eqIntSS F r104 r21).bind fun r114 => (if (!r114) = true then some false else ((S_laws_heldIntSS F r81.2 1).bind fun r119 => (if (decide (r119 < 0)) = true then some false else (if (r119 != r81.1) = true then some false else some true))))))))))))

def S_laws_FnExactEdgesOf (F : Nat) (p0_aG_Size : Int) (p0_aG_Rows : List Int) : Option (Bool) :=
  ((S_laws_szGraph F p0_aG_Size p0_aG_Rows 1048576).bind fun r7 => (if (decide (r7 < 0)) = true then some true else ((S_laws_toGraph F p0_aG_Size p0_aG_Rows).bind fun r19 => ((S_spec_EdgesOf F r19.1 r19.2).bind fun r21 => ((S_laws_toGraph F p0_aG_Size p0_aG_Rows).bind fun r28 => ((S_impl_EdgesOf F r28.1 r28.2).bind fun r35 => ((S_laws_eqIntSS F r35 r21).bind fun r45 => (if (!r45) = true then some false else ((S_laws_toGraph F p0_aG_Size p0_aG_Rows).bind fun r60 => ((S_laws_eqGraph F r28.1 r28.2 r60.1 r60.2).bind fun r62 => (if (!r62) = true then some false else ((S_laws_markGraph F r28.1 r28.2 1).bind fun r67 => (if (decide (r67.1 < 0)) = true then S_laws_FnExactEdgesOf_j1 F p0_aG_Size p0_aG_Rows r21 r35 true else ((S_laws_eqIntSS F r35 r21).bind fun r131 => S_laws_FnExactEdgesOf_j1 F p0_aG_Size p0_aG_Rows r21 r35 (!r131)))))))))))))))

def S_spec_NamedGraph_j2 (F : Nat) (x1000 : Int) (l1002 : List Int) (p1008 : Bool) : Option (Int × (List (Int)) × Bool) :=
  (if p1008 = true then some (0, ([] : List (Int)), false) else some (x1000, l1002, true))

def S_spec_NamedGraph_j1 (F : Nat) (p0_name : List UInt8) (p1_n : Int) (x1000 : Int) (l1002 : List Int) : Option (Int × (List (Int)) × Bool) :=
  (if (p1_n == 1) = true then (if (p0_name != ([112, 97, 116, 104] : List UInt8)) = true then (if (p0_name != ([99, 121, 99, 108, 101] : List UInt8)) = true then (if (p0_name != ([99, 111, 109, 112, 108, 101, 116, 101] : List UInt8)) = true then (if (p0_name != ([115, 116, 97, 114] : List UInt8)) = true then (if (p0_name != ([119, 104, 101, 101, 108] : List UInt8)) = true then S_spec_NamedGraph_j2 F x1000 l1002 (p0_name != ([101, 109, 112, 116, 121] : List UInt8)) else S_spec_NamedGraph_j2 F x1000 l1002 false) else S_spec_NamedGraph_j2 F x1000 l1002 false) else S_spec_NamedGraph_j2 F x1000 l1002 false) else S_spec_NamedGraph_j2 F x1000 l1002 false) else S_spec_NamedGraph_j2 F x1000 l1002 false) else S_spec_NamedGraph_j2 F x1000 l1002 false)

def S_spec_NamedGraph_j4 (F : Nat) (x1341 : Int) (x1830 : Int) (l1832 : List Int) : Option ((Int × (List Int) × Int) ⊕ ((Int × (List Int)) ⊕ (Int × (List (Int)) × Bool))) :=
  some (Sum.inl (x1830, l1832, (IntKind.i64.wrap (x1341 + 1))))

def S_spec_NamedGraph_j6 (F : Nat) (x1889 : Int) (x1967 : Int) (l1969 : List Int) : Option ((Int × (List Int) × Int) ⊕ ((Int × (List Int)) ⊕ (Int × (List (Int)) × Bool))) :=
  some (Sum.inl (x1967, l1969, (IntKind.i64.wrap (x1889 + 1))))

def S_spec_NamedGraph_j7 (F : Nat) (x1341 : Int) (x1886 : Int) (l1888 : List Int) (x1889 : Int) (p1980 : Bool) : Option ((Int × (List Int) × Int) ⊕ ((Int × (List Int)) ⊕ (Int × (List (Int)) × Bool))) :=
  (if p1980 = true then ((S_spec_AddEdge F x1886 l1888 x1341 x1889).bind fun r1982 => S_spec_NamedGraph_j6 F x1889 r1982.1 r1982.2.1) else S_spec_NamedGraph_j6 F x1889 x1886 l1888)

def S_spec_NamedGraph_l5 (F : Nat) (p0_name : List UInt8) (p1_n : Int) (x1341 : Int) (x1886 : Int) (l1888 : List Int) (x1889 : Int) : Option ((Int × (List Int) × Int) ⊕ ((Int × (List Int)) ⊕ (Int × (List (Int)) × Bool))) :=
  (if (decide (x1889 < p1_n)) = true then (if (p0_name == ([112, 97, 116, 104] : List UInt8)) = true then S_spec_NamedGraph_j7 F x1341 x1886 l1888 x1889 (x1889 == (IntKind.i64.wrap (x1341 + 1))) else (if (p0_name == ([99, 121, 99, 108, 101] : List UInt8)) = true then (if (x1889 == (IntKind.i64.wrap (x1341 + 1))) = true then S_spec_NamedGraph_j7 F x1341 x1886 l1888 x1889 true else (if (x1341 == 0) = true then S_spec_NamedGraph_j7 F x1341 x1886 l1888 x1889 (x1889 == (IntKind.i64.wrap (p1_n - 1))) else S_spec_NamedGraph_j7 F x1341 x1886 l1888 x1889 false)) else (if (p0_name == ([99, 111, 109, 112, 108, 101, 116, 101] : List UInt8)) = true then S_spec_NamedGraph_j7 F x1341 x1886 l1888 x1889 true else (if (p0_name == ([115, 116, 97, 114] : List UInt8)) = true then S_spec_NamedGraph_j7 F x1341 x1886 l1888 x1889 (x1341 == 0) else (if (p0_name == ([119, 104, 101, 101, 108] : List UInt8)) = true then (if (x1341 == 0) = true then S_spec_NamedGraph_j7 F x1341 x1886 l1888 x1889 true else (if (x1889 == (IntKind.i64.wrap (x1341 + 1))) = true then S_spec_NamedGraph_j7 F x1341 x1886 l1888 x1889 true else (if (x1341 == 1) = true then S_spec_NamedGraph_j7 F x1341 x1886 l1888 x1889 (x1889 == (IntKind.i64.wrap (p1_n - 1))) else S_spec_NamedGraph_j7 F x1341 x1886 l1888 x1889 false))) else (if (p0_name == ([101, 109, 112, 116, 121] : List UInt8)) = true then S_spec_NamedGraph_j7 F x1341 x1886 l1888 x1889 false else some (Sum.inr (Sum.inr (0, ([] : List (Int)), false))))))))) else some (Sum.inr (Sum.inl (x1886, l1888))))

def S_spec_NamedGraph_l3 (F : Nat) (p0_name : List UInt8) (p1_n : Int) (x1338 : Int) (l1340 : List Int) (x1341 : Int) : Option ((Int × (List Int) × Int) ⊕ ((Int × (List Int)) ⊕ (Int × (List (Int)) × Bool))) :=
  (if (decide (x1341 < p1_n)) = true then (loopN (σ := (Int × (List Int) × Int)) (β := ((Int × (List Int)) ⊕ (Int × (List (Int)) × Bool))) (fun s => S_spec_NamedGraph_l5 F p0_name p1_n x1341 s.1 s.2.1 s.2.2) F (x1338, l1340, (IntKind.i64.wrap (x1341 + 1)))).bind (fun b => (match b with | .inl o => S_spec_NamedGraph_j4 F x1341 o.1 o.2 | .inr o => some (Sum.inr (Sum.inr o)))) else some (Sum.inr (Sum.inl (x1338, l1340))))

def S_spec_NamedGraph (F : Nat) (p0_name : List UInt8) (p1_n : Int) : Option (Int × (List (Int)) × Bool) :=
  ((S_spec_l1In F p1_n 1 7).bind fun r11 => (if (!r11) = true then some (0, ([] : List (Int)), false) else ((mkO p1_n).bind fun _ => (loopN (σ := (Int × (List Int) × Int)) (β := ((Int × (List Int)) ⊕ (Int × (List (Int)) × Bool))) (fun s => S_spec_NamedGraph_l3 F p0_name p1_n s.1 s.2.1 s.2.2) F (p1_n, (List.replicate p1_n.toNat (0 : Int)), 0)).bind (fun b => (match b with | .inl o => S_spec_NamedGraph_j1 F p0_name p1_n o.1 o.2 | .inr o => some o)))))

def S_slices_Index_str_j1 (F : Nat) : Option (Int) :=
  some (-1)

def S_slices_Index_str_l2 (F : Nat) (p0_s : List (List UInt8)) (p1_v : List UInt8) (x33 : Int) : Option ((Int) ⊕ (Unit ⊕ Int)) :=
  (if (decide (x33 < (p0_s.length : Int))) = true then ((idxL p0_s x33).bind fun x58 => (if (p1_v == x58) = true then some (Sum.inr (Sum.inr x33)) else some (Sum.inl (IntKind.i64.wrap (x33 + 1))))) else some (Sum.inr (Sum.inl ())))

def S_slices_Index_str (F : Nat) (p0_s : List (List UInt8)) (p1_v : List UInt8) : Option (Int) :=
  (loopN (σ := Int) (β := (Unit ⊕ Int)) (fun s => S_slices_Index_str_l2 F p0_s p1_v s) F 0).bind (fun b => (match b with | .inl o => S_slices_Index_str_j1 F | .inr o => some o))

def S_slices_Contains_str (F : Nat) (p0_s : List (List UInt8)) (p1_v : List UInt8) : Option (Bool) :=
  ((S_slices_Index_str F p0_s p1_v).bind fun r4 => some (decide ((0 : Int) ≤ r4)))

def S_impl_isNamedEdge_j1 (F : Nat) (p21 : Bool) : Option (Bool) :=
  some p21

def S_impl_isNamedEdge_j2 (F : Nat) (p28 : Bool) : Option (Bool) :=
  some p28

def S_impl_isNamedEdge (F : Nat) (p0_name : List UInt8) (p1_n : Int) (p2_v : Int) (p3_w : Int) : Option (Bool) :=
  (if (p0_name == ([112, 97, 116, 104] : List UInt8)) = true then some (p3_w == (IntKind.i64.wrap (p2_v + 1))) else (if (p0_name == ([99, 121, 99, 108, 101] : List UInt8)) = true then (if (p3_w == (IntKind.i64.wrap (p2_v + 1))) = true then S_impl_isNamedEdge_j1 F true else (if (p2_v == 0) = true then S_impl_isNamedEdge_j1 F (p3_w == (IntKind.i64.wrap (p1_n - 1))) else S_impl_isNamedEdge_j1 F false)) else (if (p0_name == ([99, 111, 109, 112, 108, 101, 116, 101] : List UInt8)) = true then some true else (if (p0_name == ([115, 116, 97, 114] : List UInt8)) = true then some (p2_v == 0) else (if (p0_name == ([119, 104, 101, 101, 108] : List UInt8)) = true then (if (p2_v == 0) = true then S_impl_isNamedEdge_j2 F true else (if (p3_w == (IntKind.i64.wrap (p2_v + 1))) = true then S_impl_isNamedEdge_j2 F true else (if (p2_v == 1) = true then S_impl_isNamedEdge_j2 F (p3_w == (IntKind.i64.wrap (p1_n - 1))) else S_impl_isNamedEdge_j2 F false))) else some false)))))

def S_impl_NamedGraph_j2 (F : Nat) (p1_n : Int) (l306 : List Int) : Option (Int × (List (Int)) × Bool) :=
  some (p1_n, l306, true)

def S_impl_NamedGraph_j4 (F : Nat) (x403 : Int) (l543 : List Int) : Option (((List Int) × Int) ⊕ (((List Int)))) :=
  some (Sum.inl (l543, (IntKind.i64.wrap (x403 + 1))))

def S_impl_NamedGraph_j6 (F : Nat) (x561 : Int) (l583 : List Int) : Option (((List Int) × Int) ⊕ (((List Int)))) :=
  some (Sum.inl (l583, (IntKind.i64.wrap (x561 + 1))))

def S_impl_NamedGraph_l5 (F : Nat) (p0_name : List UInt8) (p1_n : Int) (x403 : Int) (l560 : List Int) (x561 : Int) : Option (((List Int) × Int) ⊕ (((List Int)))) :=
  (if (decide (x561 < p1_n)) = true then ((S_impl_isNamedEdge F p0_name p1_n x403 x561).bind fun r586 => (if r586 = true then ((S_impl_flip F p1_n l560 x403 x561).bind fun r587 => S_impl_NamedGraph_j6 F x561 r587) else S_impl_NamedGraph_j6 F x561 l560)) else some (Sum.inr l560))

def S_impl_NamedGraph_l3 (F : Nat) (p0_name : List UInt8) (p1_n : Int) (l402 : List Int) (x403 : Int) : Option (((List Int) × Int) ⊕ (((List Int)))) :=
  (if (decide (x403 < p1_n)) = true then (loopN (σ := ((List Int) × Int)) (β := (((List Int)))) (fun s => S_impl_NamedGraph_l5 F p0_name p1_n x403 s.1 s.2) F (l402, (IntKind.i64.wrap (x403 + 1)))).bind (fun b => S_impl_NamedGraph_j4 F x403 b) else some (Sum.inr l402))

def S_impl_NamedGraph_j1 (F : Nat) (p0_name : List UInt8) (p1_n : Int) (p18 : Bool) : Option (Int × (List (Int)) × Bool) :=
  (if p18 = true then some (0, ([] : List (Int)), false) else ((mkO p1_n).bind fun _ => (loopN (σ := ((List Int) × Int)) (β := (((List Int)))) (fun s => S_impl_NamedGraph_l3 F p0_name p1_n s.1 s.2) F ((List.replicate p1_n.toNat (0 : Int)), 0)).bind (fun b => S_impl_NamedGraph_j2 F p1_n b)))

def S_impl_NamedGraph (F : Nat) (p0_name : List UInt8) (p1_n : Int) : Option (Int × (List (Int)) × Bool) :=
  ((S_slices_Contains_str F ([([112, 97, 116, 104] : List UInt8), ([99, 121, 99, 108, 101] : List UInt8), ([99, 111, 109, 112, 108, 101, 116, 101] : List UInt8), ([115, 116, 97, 114] : List UInt8), ([119, 104, 101, 101, 108] : List UInt8), ([101, 109, 112, 116, 121] : List UInt8)] : List (List UInt8)) p0_name).bind fun r589 => (if (!r589) = true then S_impl_NamedGraph_j1 F p0_name p1_n true else ((S_impl_within F p1_n 1 7).bind fun r590 => S_impl_NamedGraph_j1 F p0_name p1_n (!r590))))

def S_laws_FnExactNamedGraph_j2 (F : Nat) (r18 : Int × (List (Int)) × Bool) (r34 : Int × (List (Int))) (p64 : Bool) : Option (Bool) :=
  (if p64 = true then some false else ((S_laws_heldGraph F r18.1 r34.2 1).bind fun r69 => (if (decide (r69 < 0)) = true then some false else (if (r69 != r34.1) = true then some false else some true))))

def S_laws_FnExactNamedGraph_j1 (F : Nat) (p0_aName : List UInt8) (p1_aN : Int) (r11 : Int × (List (Int)) × Bool) (r18 : Int × (List (Int)) × Bool) (p29 : Bool) : Option (Bool) :=
  (if p29 = true then some false else ((S_laws_markGraph F r18.1 r18.2.1 1).bind fun r34 => ((S_laws_heldGraph F r18.1 r34.2 1).bind fun r38 => (if (decide (r38 < 0)) = true then some false else (if (r38 != r34.1) = true then some false else ((S_impl_NamedGraph F p0_aName p1_aN).bind fun r53 => ((S_laws_eqGraph F r53.1 r53.2.1 r11.1 r11.2.1).bind fun r81 => (if (!r81) = true then S_laws_FnExactNamedGraph_j2 F r18 r34 true else S_laws_FnExactNamedGraph_j2 F r18 r34 (r53.2.2 != r11.2.2)))))))))

def S_laws_FnExactNamedGraph (F : Nat) (p0_aName : List UInt8) (p1_aN : Int) : Option (Bool) :=
  (if (decide ((1048576 : Int) < (p0_aName.length : Int))) = true then some true else ((S_spec_NamedGraph F p0_aName p1_aN).bind fun r11 => ((S_impl_NamedGraph F p0_aName p1_aN).bind fun r18 => ((S_laws_eqGraph F r18.1 r18.2.1 r11.1 r11.2.1).bind fun r82 => (if (!r82) = true then S_laws_FnExactNamedGraph_j1 F p0_aName p1_aN r11 r18 true else S_laws_FnExactNamedGraph_j1 F p0_aName p1_aN r11 r18 (r18.2.2 != r11.2.2))))))

end Go.Proofs.Ytfhjmoikggiblaa
