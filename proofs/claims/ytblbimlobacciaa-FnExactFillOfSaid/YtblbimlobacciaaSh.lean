/- Proved here: nothing but what each Go function of the seat computes, as printed by my translator -/
import Derived.Test.YtblbimlobacciaaK8
namespace Go.Proofs.Ytblbimlobacciaa
open Go Go.RowKit
set_option linter.unusedVariables false
set_option linter.unusedSimpArgs false
set_option maxRecDepth 100000
set_option maxHeartbeats 40000000

def S_laws_eqIntS_j1 (F : Nat) : Option (Bool) :=
  some true

def S_laws_eqIntS_l2 (F : Nat) (p0_a : List Int) (p1_b : List Int) (x44 : Int) : Option ((Int) ⊕ (Unit ⊕ Bool)) :=
  (if (decide (x44 < (p0_a.length : Int))) = true then ((idxL p0_a x44).bind fun x74 => ((idxL p1_b x44).bind fun x75 => (if (x74 != x75) = true then some (Sum.inr (Sum.inr false)) else some (Sum.inl (IntKind.i64.wrap (x44 + 1)))))) else some (Sum.inr (Sum.inl ())))

def S_laws_eqIntS (F : Nat) (p0_a : List Int) (p1_b : List Int) : Option (Bool) :=
  (if ((p0_a.length : Int) != (p1_b.length : Int)) = true then some false else (loopN (σ := Int) (β := (Unit ⊕ Bool)) (fun s => S_laws_eqIntS_l2 F p0_a p1_b s) F 0).bind (fun b => (match b with | .inl o => S_laws_eqIntS_j1 F | .inr o => some o)))

def S_laws_eqGraph (F : Nat) (p0_a_Size : Int) (p0_a_Rows : List Int) (p1_b_Size : Int) (p1_b_Rows : List Int) : Option (Bool) :=
  (if (p0_a_Size != p1_b_Size) = true then some false else ((S_laws_eqIntS F p0_a_Rows p1_b_Rows).bind fun r18 => (if (!r18) = true then some false else some true)))

def S_laws_markIntS_j1 (F : Nat) (x39 : Int) (l40 : List Int) : Option (Int × (List (Int))) :=
  some (x39, l40)

def S_laws_markIntS_l2 (F : Nat) (l55 : List Int) (x56 : Int) (x57 : Int) : Option (((List Int) × Int × Int) ⊕ ((Int × (List Int)))) :=
  (if (decide (x57 < (l55.length : Int))) = true then ((idxL l55 x57).bind fun x77 => some (Sum.inl ((l55.set (x57.toNat) x56), (IntKind.i64.wrap (x56 + 1)), (IntKind.i64.wrap (x57 + 1))))) else some (Sum.inr (x56, l55)))

def S_laws_markIntS (F : Nat) (p0_a : List Int) (p1_k : Int) : Option (Int × (List (Int))) :=
  (loopN (σ := ((List Int) × Int × Int)) (β := ((Int × (List Int)))) (fun s => S_laws_markIntS_l2 F s.1 s.2.1 s.2.2) F (p0_a, p1_k, 0)).bind (fun b => S_laws_markIntS_j1 F b.1 b.2)

def S_laws_markGraph (F : Nat) (p0_a_Size : Int) (p0_a_Rows : List Int) (p1_k : Int) : Option (Int × (List (Int))) :=
  ((S_laws_markIntS F p0_a_Rows p1_k).bind fun r6 => some (r6.1, r6.2))

def S_laws_markIntSS_j1 (F : Nat) (x39 : Int) (l40 : List (List Int)) : Option (Int × (List (List Int))) :=
  some (x39, l40)

def S_laws_markIntSS_l2 (F : Nat) (l55 : List (List Int)) (x56 : Int) (x57 : Int) : Option (((List (List Int)) × Int × Int) ⊕ ((Int × (List (List Int))))) :=
  (if (decide (x57 < (l55.length : Int))) = true then ((idxL l55 x57).bind fun x75 => ((S_laws_markIntS F x75 x56).bind fun r77 => some (Sum.inl ((l55.set (x57.toNat) r77.2), r77.1, (IntKind.i64.wrap (x57 + 1)))))) else some (Sum.inr (x56, l55)))

def S_laws_markIntSS (F : Nat) (p0_a : List (List Int)) (p1_k : Int) : Option (Int × (List (List Int))) :=
  (loopN (σ := ((List (List Int)) × Int × Int)) (β := ((Int × (List (List Int))))) (fun s => S_laws_markIntSS_l2 F s.1 s.2.1 s.2.2) F (p0_a, p1_k, 0)).bind (fun b => S_laws_markIntSS_j1 F b.1 b.2)

def S_laws_heldIntS_j1 (F : Nat) (x50 : Int) : Option (Int) :=
  some x50

def S_laws_heldIntS_l2 (F : Nat) (p0_a : List Int) (x53 : Int) (x54 : Int) : Option ((Int × Int) ⊕ (Int ⊕ Int)) :=
  (if (decide (x54 < (p0_a.length : Int))) = true then ((idxL p0_a x54).bind fun x97 => (if (x97 != x53) = true then some (Sum.inr (Sum.inr (-1))) else some (Sum.inl ((IntKind.i64.wrap (x53 + 1)), (IntKind.i64.wrap (x54 + 1)))))) else some (Sum.inr (Sum.inl x53)))

def S_laws_heldIntS (F : Nat) (p0_a : List Int) (p1_k : Int) : Option (Int) :=
  (loopN (σ := (Int × Int)) (β := (Int ⊕ Int)) (fun s => S_laws_heldIntS_l2 F p0_a s.1 s.2) F (p1_k, 0)).bind (fun b => (match b with | .inl o => S_laws_heldIntS_j1 F o | .inr o => some o))

def S_laws_heldIntSS_j1 (F : Nat) (x50 : Int) : Option (Int) :=
  some x50

def S_laws_heldIntSS_l2 (F : Nat) (p0_a : List (List Int)) (x53 : Int) (x54 : Int) : Option ((Int × Int) ⊕ (Int ⊕ Int)) :=
  (if (decide (x54 < (p0_a.length : Int))) = true then ((idxL p0_a x54).bind fun x94 => ((S_laws_heldIntS F x94 x53).bind fun r96 => (if (decide (r96 < 0)) = true then some (Sum.inr (Sum.inr (-1))) else some (Sum.inl (r96, (IntKind.i64.wrap (x54 + 1))))))) else some (Sum.inr (Sum.inl x53)))

def S_laws_heldIntSS (F : Nat) (p0_a : List (List Int)) (p1_k : Int) : Option (Int) :=
  (loopN (σ := (Int × Int)) (β := (Int ⊕ Int)) (fun s => S_laws_heldIntSS_l2 F p0_a s.1 s.2) F (p1_k, 0)).bind (fun b => (match b with | .inl o => S_laws_heldIntSS_j1 F o | .inr o => some o))

def S_laws_szIntS (F : Nat) (p0_a : List Int) (p1_left : Int) : Option (Int) :=
  (if (decide ((IntKind.i64.wrap (p1_left - (p0_a.length : Int))) < 0)) = true then some (-1) else some (IntKind.i64.wrap (p1_left - (p0_a.length : Int))))

def S_laws_szGraph (F : Nat) (p0_a_Size : Int) (p0_a_Rows : List Int) (p1_left : Int) : Option (Int) :=
  ((S_laws_szIntS F p0_a_Rows p1_left).bind fun r6 => (if (decide (r6 < 0)) = true then some (-1) else some r6))

def S_spec_l1In_j1 (F : Nat) (p3 : Bool) : Option (Bool) :=
  some p3

def S_spec_l1In (F : Nat) (p0_x : Int) (p1_low : Int) (p2_high : Int) : Option (Bool) :=
  (if (decide (p1_low ≤ p0_x)) = true then S_spec_l1In_j1 F (decide (p0_x ≤ p2_high)) else S_spec_l1In_j1 F false)

def S_spec_IsGraph_j2 (F : Nat) : Option (Bool) :=
  some true

def S_spec_IsGraph_j4 (F : Nat) (x319 : Int) : Option ((Int) ⊕ (Unit ⊕ Bool)) :=
  some (Sum.inl (IntKind.i64.wrap (x319 + 1)))

def S_spec_IsGraph_j7 (F : Nat) (x564 : Int) (p611 : Bool) : Option ((Int) ⊕ (Unit ⊕ Bool)) :=
  (if p611 = true then some (Sum.inr (Sum.inr false)) else some (Sum.inl (IntKind.i64.wrap (x564 + 1))))

def S_spec_IsGraph_l6 (F : Nat) (p0_g_Size : Int) (p0_g_Rows : List Int) (x319 : Int) (x564 : Int) : Option ((Int) ⊕ (Unit ⊕ Bool)) :=
  (if (decide (x564 < p0_g_Size)) = true then ((idxL p0_g_Rows x319).bind fun x613 => ((nnO x564).bind fun _ => (if ((bAnd (shR x613 x564) 1) == 1) = true then ((idxL p0_g_Rows x564).bind fun x614 => (if (decide (x614 < 0)) = true then S_spec_IsGraph_j7 F x564 true else ((idxL p0_g_Rows x564).bind fun x615 => ((nnO p0_g_Size).bind fun _ => (if (decide ((shL 1 p0_g_Size) ≤ x615)) = true then S_spec_IsGraph_j7 F x564 true else ((idxL p0_g_Rows x564).bind fun x616 => ((nnO x319).bind fun _ => S_spec_IsGraph_j7 F x564 ((bAnd (shR x616 x319) 1) == 0)))))))) else S_spec_IsGraph_j7 F x564 false))) else some (Sum.inr (Sum.inl ())))

def S_spec_IsGraph_j5 (F : Nat) (p0_g_Size : Int) (p0_g_Rows : List Int) (x319 : Int) (p561 : Bool) : Option ((Int) ⊕ (Unit ⊕ Bool)) :=
  (if p561 = true then some (Sum.inr (Sum.inr false)) else (loopN (σ := Int) (β := (Unit ⊕ Bool)) (fun s => S_spec_IsGraph_l6 F p0_g_Size p0_g_Rows x319 s) F 0).bind (fun b => (match b with | .inl o => S_spec_IsGraph_j4 F x319 | .inr o => some (Sum.inr (Sum.inr o)))))

def S_spec_IsGraph_l3 (F : Nat) (p0_g_Size : Int) (p0_g_Rows : List Int) (x319 : Int) : Option ((Int) ⊕ (Unit ⊕ Bool)) :=
  (if (decide (x319 < p0_g_Size)) = true then ((idxL p0_g_Rows x319).bind fun x617 => (if (decide (x617 < 0)) = true then S_spec_IsGraph_j5 F p0_g_Size p0_g_Rows x319 true else ((idxL p0_g_Rows x319).bind fun x618 => ((nnO p0_g_Size).bind fun _ => (if (decide ((shL 1 p0_g_Size) ≤ x618)) = true then S_spec_IsGraph_j5 F p0_g_Size p0_g_Rows x319 true else ((idxL p0_g_Rows x319).bind fun x619 => ((nnO x319).bind fun _ => S_spec_IsGraph_j5 F p0_g_Size p0_g_Rows x319 ((bAnd (shR x619 x319) 1) == 1)))))))) else some (Sum.inr (Sum.inl ())))

def S_spec_IsGraph_j1 (F : Nat) (p0_g_Size : Int) (p0_g_Rows : List Int) (p12 : Bool) : Option (Bool) :=
  (if p12 = true then some false else (loopN (σ := Int) (β := (Unit ⊕ Bool)) (fun s => S_spec_IsGraph_l3 F p0_g_Size p0_g_Rows s) F 0).bind (fun b => (match b with | .inl o => S_spec_IsGraph_j2 F | .inr o => some o)))

def S_spec_IsGraph (F : Nat) (p0_g_Size : Int) (p0_g_Rows : List Int) : Option (Bool) :=
  ((S_spec_l1In F p0_g_Size 1 7).bind fun r620 => (if (!r620) = true then S_spec_IsGraph_j1 F p0_g_Size p0_g_Rows true else S_spec_IsGraph_j1 F p0_g_Size p0_g_Rows ((p0_g_Rows.length : Int) != p0_g_Size)))

def S_spec_SetOf_j1 (F : Nat) (x95 : Int) : Option (Int × Bool) :=
  some (x95, true)

def S_spec_SetOf_j3 (F : Nat) (p0_l : List Int) (x98 : Int) (x99 : Int) (p182 : Bool) : Option ((Int × Int) ⊕ (Int ⊕ (Int × Bool))) :=
  (if p182 = true then some (Sum.inr (Sum.inr (0, false))) else ((idxL p0_l x99).bind fun x184 => ((nnO x184).bind fun _ => some (Sum.inl ((IntKind.i64.wrap (x98 + (shL 1 x184))), (IntKind.i64.wrap (x99 + 1)))))))

def S_spec_SetOf_l2 (F : Nat) (p0_l : List Int) (x98 : Int) (x99 : Int) : Option ((Int × Int) ⊕ (Int ⊕ (Int × Bool))) :=
  (if (decide (x99 < (p0_l.length : Int))) = true then ((idxL p0_l x99).bind fun x185 => ((S_spec_l1In F x185 0 6).bind fun r186 => (if (!r186) = true then S_spec_SetOf_j3 F p0_l x98 x99 true else ((idxL p0_l x99).bind fun x187 => ((nnO x187).bind fun _ => S_spec_SetOf_j3 F p0_l x98 x99 ((bAnd (shR x98 x187) 1) == 1)))))) else some (Sum.inr (Sum.inl x98)))

def S_spec_SetOf (F : Nat) (p0_l : List Int) : Option (Int × Bool) :=
  (loopN (σ := (Int × Int)) (β := (Int ⊕ (Int × Bool))) (fun s => S_spec_SetOf_l2 F p0_l s.1 s.2) F (0, 0)).bind (fun b => (match b with | .inl o => S_spec_SetOf_j1 F o | .inr o => some o))

def S_spec_IsSet_j1 (F : Nat) (p6 : Bool) : Option (Bool) :=
  some p6

def S_spec_IsSet (F : Nat) (p0_g_Size : Int) (p0_g_Rows : List Int) (p1_set : Int) : Option (Bool) :=
  ((S_spec_IsGraph F p0_g_Size p0_g_Rows).bind fun r7 => (if r7 = true then (if (decide ((0 : Int) ≤ p1_set)) = true then ((nnO p0_g_Size).bind fun _ => S_spec_IsSet_j1 F (decide (p1_set < (shL 1 p0_g_Size)))) else S_spec_IsSet_j1 F false) else S_spec_IsSet_j1 F false))

def S_spec_l4Distinct_j1 (F : Nat) (p10 : Bool) : Option (Bool) :=
  some p10

def S_spec_l4Distinct (F : Nat) (p0_g_Size : Int) (p0_g_Rows : List Int) (p1_l : List Int) : Option (Bool) :=
  ((S_spec_SetOf F p1_l).bind fun r6 => ((S_spec_IsGraph F p0_g_Size p0_g_Rows).bind fun r11 => (if r11 = true then (if r6.2 = true then ((S_spec_IsSet F p0_g_Size p0_g_Rows r6.1).bind fun r12 => S_spec_l4Distinct_j1 F r12) else S_spec_l4Distinct_j1 F false) else S_spec_l4Distinct_j1 F false)))

def S_spec_IsOrder_j1 (F : Nat) (p6 : Bool) : Option (Bool) :=
  some p6

def S_spec_IsOrder (F : Nat) (p0_g_Size : Int) (p0_g_Rows : List Int) (p1_l : List Int) : Option (Bool) :=
  ((S_spec_l4Distinct F p0_g_Size p0_g_Rows p1_l).bind fun r7 => (if r7 = true then S_spec_IsOrder_j1 F ((p1_l.length : Int) == p0_g_Size) else S_spec_IsOrder_j1 F false))

def S_spec_l2Copy (F : Nat) (p0_g_Size : Int) (p0_g_Rows : List Int) : Option (Int × (List (Int))) :=
  ((catO ([] : List (Int)).length p0_g_Rows.length).bind fun _ => some (p0_g_Size, (([] : List (Int)) ++ p0_g_Rows)))

def S_spec_l3Fine (F : Nat) (p0_set : Int) : Option (Bool) :=
  ((S_spec_l1In F p0_set 0 127).bind fun r4 => some r4)

def S_spec_ListOf_j1 (F : Nat) (l47 : List Int) : Option ((List (Int))) :=
  some l47

def S_spec_ListOf_j4 (F : Nat) (x52 : Int) (l84 : List Int) : Option (((List Int) × Int) ⊕ (((List Int)))) :=
  some (Sum.inl (l84, (IntKind.i64.wrap (x52 + 1))))

def S_spec_ListOf_j3 (F : Nat) (p0_set : Int) (l51 : List Int) (x52 : Int) (p78 : Bool) : Option (((List Int) × Int) ⊕ (((List Int)))) :=
  (if p78 = true then ((nnO x52).bind fun _ => (if ((bAnd (shR p0_set x52) 1) == 1) = true then ((catO l51.length ([x52] : List (Int)).length).bind fun _ => S_spec_ListOf_j4 F x52 (l51 ++ ([x52] : List (Int)))) else S_spec_ListOf_j4 F x52 l51)) else some (Sum.inr l51))

def S_spec_ListOf_l2 (F : Nat) (p0_set : Int) (l51 : List Int) (x52 : Int) : Option (((List Int) × Int) ⊕ (((List Int)))) :=
  (if (decide (x52 < 7)) = true then ((S_spec_l3Fine F p0_set).bind fun r88 => S_spec_ListOf_j3 F p0_set l51 x52 r88) else S_spec_ListOf_j3 F p0_set l51 x52 false)

def S_spec_ListOf (F : Nat) (p0_set : Int) : Option ((List (Int))) :=
  (loopN (σ := ((List Int) × Int)) (β := (((List Int)))) (fun s => S_spec_ListOf_l2 F p0_set s.1 s.2) F (([] : List (Int)), 0)).bind (fun b => S_spec_ListOf_j1 F b)

def S_spec_LaterNeighbours_j2 (F : Nat) (p0_g_Rows : List Int) (p2_v : Int) (x43 : Int) : Option (Int) :=
  ((idxL p0_g_Rows p2_v).bind fun x46 => some (bAnd x46 x43))

def S_spec_LaterNeighbours_j4 (F : Nat) (p1_order : List Int) (x48 : Int) (x49 : Int) (p69 : Bool) : Option ((Int × Int) ⊕ (Int)) :=
  (if p69 = true then ((idxL p1_order x49).bind fun x72 => ((nnO x72).bind fun _ => some (Sum.inl ((IntKind.i64.wrap (x48 - (shL 1 x72))), (IntKind.i64.wrap (x49 + 1)))))) else some (Sum.inr x48))

def S_spec_LaterNeighbours_l3 (F : Nat) (p1_order : List Int) (p2_v : Int) (x48 : Int) (x49 : Int) : Option ((Int × Int) ⊕ (Int)) :=
  (if (decide (x49 < (p1_order.length : Int))) = true then ((idxL p1_order x49).bind fun x73 => S_spec_LaterNeighbours_j4 F p1_order x48 x49 (x73 != p2_v)) else S_spec_LaterNeighbours_j4 F p1_order x48 x49 false)

def S_spec_LaterNeighbours_j1 (F : Nat) (p0_g_Size : Int) (p0_g_Rows : List Int) (p1_order : List Int) (p2_v : Int) (p12 : Bool) : Option (Int) :=
  (if p12 = true then some 0 else ((nnO p0_g_Size).bind fun _ => (loopN (σ := (Int × Int)) (β := Int) (fun s => S_spec_LaterNeighbours_l3 F p1_order p2_v s.1 s.2) F ((IntKind.i64.wrap ((shL 1 p0_g_Size) - 1)), 0)).bind (fun b => S_spec_LaterNeighbours_j2 F p0_g_Rows p2_v b)))

def S_spec_LaterNeighbours (F : Nat) (p0_g_Size : Int) (p0_g_Rows : List Int) (p1_order : List Int) (p2_v : Int) : Option (Int) :=
  ((S_spec_IsOrder F p0_g_Size p0_g_Rows p1_order).bind fun r74 => (if (!r74) = true then S_spec_LaterNeighbours_j1 F p0_g_Size p0_g_Rows p1_order p2_v true else (if (decide (p2_v < 0)) = true then S_spec_LaterNeighbours_j1 F p0_g_Size p0_g_Rows p1_order p2_v true else S_spec_LaterNeighbours_j1 F p0_g_Size p0_g_Rows p1_order p2_v (decide (p0_g_Size ≤ p2_v)))))

def S_spec_l2Edge (F : Nat) (p0_g_Size : Int) (p0_g_Rows : List Int) (p1_v : Int) (p2_w : Int) : Option (Bool) :=
  ((idxL p0_g_Rows p1_v).bind fun x6 => ((nnO p2_w).bind fun _ => some ((bAnd (shR x6 p2_w) 1) == 1)))

def S_spec_l2Pair_j1 (F : Nat) (p6 : Bool) : Option (Bool) :=
  some p6

def S_spec_l2Pair (F : Nat) (p0_g_Size : Int) (p0_g_Rows : List Int) (p1_v : Int) (p2_w : Int) : Option (Bool) :=
  ((S_spec_IsGraph F p0_g_Size p0_g_Rows).bind fun r7 => (if r7 = true then (if (decide ((0 : Int) ≤ p1_v)) = true then (if (decide ((0 : Int) ≤ p2_w)) = true then (if (decide (p1_v < p0_g_Size)) = true then (if (decide (p2_w < p0_g_Size)) = true then S_spec_l2Pair_j1 F (p1_v != p2_w) else S_spec_l2Pair_j1 F false) else S_spec_l2Pair_j1 F false) else S_spec_l2Pair_j1 F false) else S_spec_l2Pair_j1 F false) else S_spec_l2Pair_j1 F false))

def S_spec_AddEdge_j1 (F : Nat) (p1_v : Int) (p2_w : Int) (r10 : Int × (List (Int))) (p24 : Bool) : Option (Int × (List (Int)) × Bool) :=
  (if p24 = true then some (r10.1, r10.2, false) else ((idxL r10.2 p1_v).bind fun x29 => ((nnO p2_w).bind fun _ => ((idxL r10.2 p1_v).bind fun x30 => ((idxL (r10.2.set (p1_v.toNat) (IntKind.i64.wrap (x29 + (shL 1 p2_w)))) p2_w).bind fun x34 => ((nnO p1_v).bind fun _ => ((idxL (r10.2.set (p1_v.toNat) (IntKind.i64.wrap (x29 + (shL 1 p2_w)))) p2_w).bind fun x35 => some (r10.1, ((r10.2.set (p1_v.toNat) (IntKind.i64.wrap (x29 + (shL 1 p2_w)))).set (p2_w.toNat) (IntKind.i64.wrap (x34 + (shL 1 p1_v)))), true))))))))

def S_spec_AddEdge (F : Nat) (p0_g_Size : Int) (p0_g_Rows : List Int) (p1_v : Int) (p2_w : Int) : Option (Int × (List (Int)) × Bool) :=
  ((S_spec_l2Copy F p0_g_Size p0_g_Rows).bind fun r10 => ((S_spec_l2Pair F p0_g_Size p0_g_Rows p1_v p2_w).bind fun r37 => (if (!r37) = true then S_spec_AddEdge_j1 F p1_v p2_w r10 true else ((S_spec_l2Edge F p0_g_Size p0_g_Rows p1_v p2_w).bind fun r38 => S_spec_AddEdge_j1 F p1_v p2_w r10 r38))))

def S_spec_l6Filled_j1 (F : Nat) (x1769 : Int) (l1771 : List Int) : Option (Int × (List (Int))) :=
  some (x1769, l1771)

def S_spec_l6Filled_j3 (F : Nat) (x2361 : Int) (x3237 : Int) (l3239 : List Int) : Option ((Int × (List Int) × Int) ⊕ ((Int × (List Int)))) :=
  some (Sum.inl (x3237, l3239, (IntKind.i64.wrap (x2361 + 1))))

def S_spec_l6Filled_j5 (F : Nat) (x3345 : Int) (x3483 : Int) (l3485 : List Int) : Option ((Int × (List Int) × Int) ⊕ ((Int × (List Int)))) :=
  some (Sum.inl (x3483, l3485, (IntKind.i64.wrap (x3345 + 1))))

def S_spec_l6Filled_l6 (F : Nat) (r3247 : (List (Int))) (x3345 : Int) (x3500 : Int) (l3502 : List Int) (x3503 : Int) : Option ((Int × (List Int) × Int) ⊕ ((Int × (List Int)))) :=
  (if (decide (x3503 < x3345)) = true then ((idxL r3247 x3345).bind fun x3524 => ((idxL r3247 x3503).bind fun x3525 => ((S_spec_AddEdge F x3500 l3502 x3524 x3525).bind fun r3526 => some (Sum.inl (r3526.1, r3526.2.1, (IntKind.i64.wrap (x3503 + 1))))))) else some (Sum.inr (x3500, l3502)))

def S_spec_l6Filled_l4 (F : Nat) (r3247 : (List (Int))) (x3342 : Int) (l3344 : List Int) (x3345 : Int) : Option ((Int × (List Int) × Int) ⊕ ((Int × (List Int)))) :=
  (if (decide (x3345 < (r3247.length : Int))) = true then (loopN (σ := (Int × (List Int) × Int)) (β := ((Int × (List Int)))) (fun s => S_spec_l6Filled_l6 F r3247 x3345 s.1 s.2.1 s.2.2) F (x3342, l3344, 0)).bind (fun b => S_spec_l6Filled_j5 F x3345 b.1 b.2) else some (Sum.inr (x3342, l3344)))

def S_spec_l6Filled_l2 (F : Nat) (p1_order : List Int) (x2358 : Int) (l2360 : List Int) (x2361 : Int) : Option ((Int × (List Int) × Int) ⊕ ((Int × (List Int)))) :=
  (if (decide (x2361 < (p1_order.length : Int))) = true then ((idxL p1_order x2361).bind fun x3245 => ((S_spec_LaterNeighbours F x2358 l2360 p1_order x3245).bind fun r3246 => ((S_spec_ListOf F r3246).bind fun r3247 => (loopN (σ := (Int × (List Int) × Int)) (β := ((Int × (List Int)))) (fun s => S_spec_l6Filled_l4 F r3247 s.1 s.2.1 s.2.2) F (x2358, l2360, 0)).bind (fun b => S_spec_l6Filled_j3 F x2361 b.1 b.2)))) else some (Sum.inr (x2358, l2360)))

def S_spec_l6Filled (F : Nat) (p0_g_Size : Int) (p0_g_Rows : List Int) (p1_order : List Int) : Option (Int × (List (Int))) :=
  ((S_spec_l2Copy F p0_g_Size p0_g_Rows).bind fun r10 => (loopN (σ := (Int × (List Int) × Int)) (β := ((Int × (List Int)))) (fun s => S_spec_l6Filled_l2 F p1_order s.1 s.2.1 s.2.2) F (r10.1, r10.2, 0)).bind (fun b => S_spec_l6Filled_j1 F b.1 b.2))

def S_spec_EdgesOf_j1 (F : Nat) (l213 : List (List Int)) : Option ((List (List Int))) :=
  some l213

def S_spec_EdgesOf_j4 (F : Nat) (x219 : Int) (l373 : List (List Int)) : Option (((List (List Int)) × Int) ⊕ (((List (List Int))))) :=
  some (Sum.inl (l373, (IntKind.i64.wrap (x219 + 1))))

def S_spec_EdgesOf_j6 (F : Nat) (x378 : Int) (l410 : List (List Int)) : Option (((List (List Int)) × Int) ⊕ (((List (List Int))))) :=
  some (Sum.inl (l410, (IntKind.i64.wrap (x378 + 1))))

def S_spec_EdgesOf_l5 (F : Nat) (p0_g_Size : Int) (p0_g_Rows : List Int) (x219 : Int) (l377 : List (List Int)) (x378 : Int) : Option (((List (List Int)) × Int) ⊕ (((List (List Int))))) :=
  (if (decide (x378 < p0_g_Size)) = true then ((S_spec_l2Edge F p0_g_Size p0_g_Rows x219 x378).bind fun r413 => (if r413 = true then ((catO l377.length ([([x219, x378] : List (Int))] : List (List Int)).length).bind fun _ => S_spec_EdgesOf_j6 F x378 (l377 ++ ([([x219, x378] : List (Int))] : List (List Int)))) else S_spec_EdgesOf_j6 F x378 l377)) else some (Sum.inr l377))

def S_spec_EdgesOf_j3 (F : Nat) (p0_g_Size : Int) (p0_g_Rows : List Int) (l218 : List (List Int)) (x219 : Int) (p326 : Bool) : Option (((List (List Int)) × Int) ⊕ (((List (List Int))))) :=
  (if p326 = true then (loopN (σ := ((List (List Int)) × Int)) (β := (((List (List Int))))) (fun s => S_spec_EdgesOf_l5 F p0_g_Size p0_g_Rows x219 s.1 s.2) F (l218, (IntKind.i64.wrap (x219 + 1)))).bind (fun b => S_spec_EdgesOf_j4 F x219 b) else some (Sum.inr l218))

def S_spec_EdgesOf_l2 (F : Nat) (p0_g_Size : Int) (p0_g_Rows : List Int) (l218 : List (List Int)) (x219 : Int) : Option (((List (List Int)) × Int) ⊕ (((List (List Int))))) :=
  (if (decide (x219 < p0_g_Size)) = true then ((S_spec_IsGraph F p0_g_Size p0_g_Rows).bind fun r417 => S_spec_EdgesOf_j3 F p0_g_Size p0_g_Rows l218 x219 r417) else S_spec_EdgesOf_j3 F p0_g_Size p0_g_Rows l218 x219 false)

def S_spec_EdgesOf (F : Nat) (p0_g_Size : Int) (p0_g_Rows : List Int) : Option ((List (List Int))) :=
  (loopN (σ := ((List (List Int)) × Int)) (β := (((List (List Int))))) (fun s => S_spec_EdgesOf_l2 F p0_g_Size p0_g_Rows s.1 s.2) F (([] : List (List Int)), 0)).bind (fun b => S_spec_EdgesOf_j1 F b)

def S_spec_FillOf_j1 (F : Nat) (l132 : List (List Int)) : Option ((List (List Int)) × Bool) :=
  some (l132, true)

def S_spec_FillOf_j3 (F : Nat) (x138 : Int) (l209 : List (List Int)) : Option (((List (List Int)) × Int) ⊕ (((List (List Int))))) :=
  some (Sum.inl (l209, (IntKind.i64.wrap (x138 + 1))))

def S_spec_FillOf_l2 (F : Nat) (p0_g_Size : Int) (p0_g_Rows : List Int) (r31 : (List (List Int))) (l137 : List (List Int)) (x138 : Int) : Option (((List (List Int)) × Int) ⊕ (((List (List Int))))) :=
  (if (decide (x138 < (r31.length : Int))) = true then ((idxL r31 x138).bind fun x218 => ((idxL x218 0).bind fun x220 => ((idxL r31 x138).bind fun x221 => ((idxL x221 1).bind fun x223 => ((S_spec_l2Edge F p0_g_Size p0_g_Rows x220 x223).bind fun r224 => (if (!r224) = true then ((idxL r31 x138).bind fun x225 => ((catO l137.length ([x225] : List (List Int)).length).bind fun _ => S_spec_FillOf_j3 F x138 (l137 ++ ([x225] : List (List Int))))) else S_spec_FillOf_j3 F x138 l137)))))) else some (Sum.inr l137))

def S_spec_FillOf (F : Nat) (p0_g_Size : Int) (p0_g_Rows : List Int) (p1_order : List Int) : Option ((List (List Int)) × Bool) :=
  ((S_spec_IsOrder F p0_g_Size p0_g_Rows p1_order).bind fun r13 => (if (!r13) = true then some (([] : List (List Int)), false) else ((S_spec_l6Filled F p0_g_Size p0_g_Rows p1_order).bind fun r21 => ((S_spec_EdgesOf F r21.1 r21.2).bind fun r31 => (loopN (σ := ((List (List Int)) × Int)) (β := (((List (List Int))))) (fun s => S_spec_FillOf_l2 F p0_g_Size p0_g_Rows r31 s.1 s.2) F (([] : List (List Int)), 0)).bind (fun b => S_spec_FillOf_j1 F b)))))

def S_laws_toIntS_j1 (F : Nat) (l34 : List Int) : Option ((List (Int))) :=
  some l34

def S_laws_toIntS_l2 (F : Nat) (p0_a : List Int) (l46 : List Int) (x47 : Int) : Option (((List Int) × Int) ⊕ (((List Int)))) :=
  (if (decide (x47 < (p0_a.length : Int))) = true then ((idxL p0_a x47).bind fun x62 => ((idxL l46 x47).bind fun x63 => some (Sum.inl ((l46.set (x47.toNat) x62), (IntKind.i64.wrap (x47 + 1)))))) else some (Sum.inr l46))

def S_laws_toIntS (F : Nat) (p0_a : List Int) : Option ((List (Int))) :=
  ((mkO (p0_a.length : Int)).bind fun _ => (loopN (σ := ((List Int) × Int)) (β := (((List Int)))) (fun s => S_laws_toIntS_l2 F p0_a s.1 s.2) F ((List.replicate (p0_a.length : Int).toNat (0 : Int)), 0)).bind (fun b => S_laws_toIntS_j1 F b))

def S_laws_toGraph (F : Nat) (p0_a_Size : Int) (p0_a_Rows : List Int) : Option (Int × (List (Int))) :=
  ((S_laws_toIntS F p0_a_Rows).bind fun r13 => some (p0_a_Size, r13))

def S_impl_within_j1 (F : Nat) (p3 : Bool) : Option (Bool) :=
  some p3

def S_impl_within (F : Nat) (p0_n : Int) (p1_low : Int) (p2_high : Int) : Option (Bool) :=
  (if (decide (p1_low ≤ p0_n)) = true then S_impl_within_j1 F (decide (p0_n ≤ p2_high)) else S_impl_within_j1 F false)

def S_impl_has (F : Nat) (p0_set : Int) (p1_v : Int) : Option (Bool) :=
  ((nnO p1_v).bind fun _ => some ((bAnd (shR p0_set p1_v) 1) == 1))

def S_impl_IsGraph_j3 (F : Nat) : Option (Bool) :=
  some true

def S_impl_IsGraph_j5 (F : Nat) (x262 : Int) : Option ((Int) ⊕ (Unit ⊕ Bool)) :=
  some (Sum.inl (IntKind.i64.wrap (x262 + 1)))

def S_impl_IsGraph_l6 (F : Nat) (p0_g_Rows : List Int) (x262 : Int) (x412 : Int) (x414 : Int) : Option ((Int) ⊕ (Unit ⊕ Bool)) :=
  (if (decide (x414 < x262)) = true then ((idxL p0_g_Rows x414).bind fun x453 => ((S_impl_has F x412 x414).bind fun r454 => ((S_impl_has F x453 x262).bind fun r455 => (if (r454 != r455) = true then some (Sum.inr (Sum.inr false)) else some (Sum.inl (IntKind.i64.wrap (x414 + 1))))))) else some (Sum.inr (Sum.inl ())))

def S_impl_IsGraph_l4 (F : Nat) (p0_g_Rows : List Int) (x262 : Int) : Option ((Int) ⊕ (Unit ⊕ Bool)) :=
  (if (decide (x262 < (p0_g_Rows.length : Int))) = true then ((idxL p0_g_Rows x262).bind fun x412 => (loopN (σ := Int) (β := (Unit ⊕ Bool)) (fun s => S_impl_IsGraph_l6 F p0_g_Rows x262 x412 s) F 0).bind (fun b => (match b with | .inl o => S_impl_IsGraph_j5 F x262 | .inr o => some (Sum.inr (Sum.inr o))))) else some (Sum.inr (Sum.inl ())))

def S_impl_IsGraph_j2 (F : Nat) (p0_g_Rows : List Int) : Option (Bool) :=
  (loopN (σ := Int) (β := (Unit ⊕ Bool)) (fun s => S_impl_IsGraph_l4 F p0_g_Rows s) F 0).bind (fun b => (match b with | .inl o => S_impl_IsGraph_j3 F | .inr o => some o))

def S_impl_IsGraph_j8 (F : Nat) (x458 : Int) (p501 : Bool) : Option ((Int) ⊕ (Unit ⊕ Bool)) :=
  (if p501 = true then some (Sum.inr (Sum.inr false)) else some (Sum.inl (IntKind.i64.wrap (x458 + 1))))

def S_impl_IsGraph_l7 (F : Nat) (p0_g_Size : Int) (p0_g_Rows : List Int) (x458 : Int) : Option ((Int) ⊕ (Unit ⊕ Bool)) :=
  (if (decide (x458 < (p0_g_Rows.length : Int))) = true then ((idxL p0_g_Rows x458).bind fun x497 => ((nnO p0_g_Size).bind fun _ => ((S_impl_within F x497 0 (IntKind.i64.wrap ((shL 1 p0_g_Size) - 1))).bind fun r503 => (if (!r503) = true then S_impl_IsGraph_j8 F x458 true else ((S_impl_has F x497 x458).bind fun r504 => S_impl_IsGraph_j8 F x458 r504))))) else some (Sum.inr (Sum.inl ())))

def S_impl_IsGraph_j1 (F : Nat) (p0_g_Size : Int) (p0_g_Rows : List Int) (p12 : Bool) : Option (Bool) :=
  (if p12 = true then some false else (loopN (σ := Int) (β := (Unit ⊕ Bool)) (fun s => S_impl_IsGraph_l7 F p0_g_Size p0_g_Rows s) F 0).bind (fun b => (match b with | .inl o => S_impl_IsGraph_j2 F p0_g_Rows | .inr o => some o)))

def S_impl_IsGraph (F : Nat) (p0_g_Size : Int) (p0_g_Rows : List Int) : Option (Bool) :=
  ((S_impl_within F p0_g_Size 1 7).bind fun r505 => (if (!r505) = true then S_impl_IsGraph_j1 F p0_g_Size p0_g_Rows true else S_impl_IsGraph_j1 F p0_g_Size p0_g_Rows ((p0_g_Rows.length : Int) != p0_g_Size)))

def S_slices_Index_int_j1 (F : Nat) : Option (Int) :=
  some (-1)

def S_slices_Index_int_l2 (F : Nat) (p0_s : List Int) (p1_v : Int) (x33 : Int) : Option ((Int) ⊕ (Unit ⊕ Int)) :=
  (if (decide (x33 < (p0_s.length : Int))) = true then ((idxL p0_s x33).bind fun x58 => (if (p1_v == x58) = true then some (Sum.inr (Sum.inr x33)) else some (Sum.inl (IntKind.i64.wrap (x33 + 1))))) else some (Sum.inr (Sum.inl ())))

def S_slices_Index_int (F : Nat) (p0_s : List Int) (p1_v : Int) : Option (Int) :=
  (loopN (σ := Int) (β := (Unit ⊕ Int)) (fun s => S_slices_Index_int_l2 F p0_s p1_v s) F 0).bind (fun b => (match b with | .inl o => S_slices_Index_int_j1 F | .inr o => some o))

def S_slices_Contains_int (F : Nat) (p0_s : List Int) (p1_v : Int) : Option (Bool) :=
  ((S_slices_Index_int F p0_s p1_v).bind fun r4 => some (decide ((0 : Int) ≤ r4)))

def S_impl_areVertices_j1 (F : Nat) (p0_g_Size : Int) (p0_g_Rows : List Int) : Option (Bool) :=
  ((S_impl_IsGraph F p0_g_Size p0_g_Rows).bind fun r63 => some r63)

def S_impl_areVertices_j3 (F : Nat) (x65 : Int) (p115 : Bool) : Option ((Int) ⊕ (Unit ⊕ Bool)) :=
  (if p115 = true then some (Sum.inr (Sum.inr false)) else some (Sum.inl (IntKind.i64.wrap (x65 + 1))))

def S_impl_areVertices_l2 (F : Nat) (p0_g_Size : Int) (p1_l : List Int) (x65 : Int) : Option ((Int) ⊕ (Unit ⊕ Bool)) :=
  (if (decide (x65 < (p1_l.length : Int))) = true then ((idxL p1_l x65).bind fun x110 => ((S_impl_within F x110 0 (IntKind.i64.wrap (p0_g_Size - 1))).bind fun r117 => (if (!r117) = true then S_impl_areVertices_j3 F x65 true else ((slO p1_l.length x65).bind fun _ => ((S_slices_Contains_int F (p1_l.take (x65.toNat)) x110).bind fun r119 => S_impl_areVertices_j3 F x65 r119))))) else some (Sum.inr (Sum.inl ())))

def S_impl_areVertices (F : Nat) (p0_g_Size : Int) (p0_g_Rows : List Int) (p1_l : List Int) : Option (Bool) :=
  (loopN (σ := Int) (β := (Unit ⊕ Bool)) (fun s => S_impl_areVertices_l2 F p0_g_Size p1_l s) F 0).bind (fun b => (match b with | .inl o => S_impl_areVertices_j1 F p0_g_Size p0_g_Rows | .inr o => some o))

def S_impl_IsOrder_j1 (F : Nat) (p6 : Bool) : Option (Bool) :=
  some p6

def S_impl_IsOrder (F : Nat) (p0_g_Size : Int) (p0_g_Rows : List Int) (p1_l : List Int) : Option (Bool) :=
  ((S_impl_areVertices F p0_g_Size p0_g_Rows p1_l).bind fun r7 => (if r7 = true then S_impl_IsOrder_j1 F ((p1_l.length : Int) == p0_g_Size) else S_impl_IsOrder_j1 F false))

def S_impl_copyGraph (F : Nat) (p0_g_Size : Int) (p0_g_Rows : List Int) : Option (Int × (List (Int))) :=
  ((catO ([] : List (Int)).length p0_g_Rows.length).bind fun _ => some (p0_g_Size, (([] : List (Int)) ++ p0_g_Rows)))

def S_impl_SetOf_j1 (F : Nat) (x85 : Int) : Option (Int × Bool) :=
  some (x85, true)

def S_impl_SetOf_j3 (F : Nat) (x88 : Int) (x89 : Int) (x152 : Int) (p164 : Bool) : Option ((Int × Int) ⊕ (Int ⊕ (Int × Bool))) :=
  (if p164 = true then some (Sum.inr (Sum.inr (0, false))) else ((nnO x152).bind fun _ => some (Sum.inl ((bOr x88 (shL 1 x152)), (IntKind.i64.wrap (x89 + 1))))))

def S_impl_SetOf_l2 (F : Nat) (p0_l : List Int) (x88 : Int) (x89 : Int) : Option ((Int × Int) ⊕ (Int ⊕ (Int × Bool))) :=
  (if (decide (x89 < (p0_l.length : Int))) = true then ((idxL p0_l x89).bind fun x152 => ((S_impl_within F x152 0 6).bind fun r166 => (if (!r166) = true then S_impl_SetOf_j3 F x88 x89 x152 true else ((S_impl_has F x88 x152).bind fun r167 => S_impl_SetOf_j3 F x88 x89 x152 r167)))) else some (Sum.inr (Sum.inl x88)))

def S_impl_SetOf (F : Nat) (p0_l : List Int) : Option (Int × Bool) :=
  (loopN (σ := (Int × Int)) (β := (Int ⊕ (Int × Bool))) (fun s => S_impl_SetOf_l2 F p0_l s.1 s.2) F (0, 0)).bind (fun b => (match b with | .inl o => S_impl_SetOf_j1 F o | .inr o => some o))

def S_impl_LaterNeighbours_j1 (F : Nat) (p0_g_Rows : List Int) (p1_order : List Int) (p2_v : Int) (p15 : Bool) : Option (Int) :=
  (if p15 = true then some 0 else ((S_slices_Index_int F p1_order p2_v).bind fun r21 => ((slO p1_order.length r21).bind fun _ => ((S_impl_SetOf F (p1_order.drop (r21.toNat))).bind fun r23 => ((idxL p0_g_Rows p2_v).bind fun x26 => some (bAnd x26 r23.1))))))

def S_impl_LaterNeighbours (F : Nat) (p0_g_Size : Int) (p0_g_Rows : List Int) (p1_order : List Int) (p2_v : Int) : Option (Int) :=
  ((S_impl_IsOrder F p0_g_Size p0_g_Rows p1_order).bind fun r27 => (if (!r27) = true then S_impl_LaterNeighbours_j1 F p0_g_Rows p1_order p2_v true else ((S_impl_within F p2_v 0 (IntKind.i64.wrap (p0_g_Size - 1))).bind fun r28 => S_impl_LaterNeighbours_j1 F p0_g_Rows p1_order p2_v (!r28))))

def S_impl_ListOf_j1 (F : Nat) (l54 : List Int) : Option ((List (Int))) :=
  some l54

def S_impl_ListOf_j3 (F : Nat) (x59 : Int) (l87 : List Int) : Option (((List Int) × Int) ⊕ (((List Int)))) :=
  some (Sum.inl (l87, (IntKind.i64.wrap (x59 + 1))))

def S_impl_ListOf_l2 (F : Nat) (p0_set : Int) (l58 : List Int) (x59 : Int) : Option (((List Int) × Int) ⊕ (((List Int)))) :=
  (if (decide (x59 < 7)) = true then ((S_impl_has F p0_set x59).bind fun r91 => (if r91 = true then ((catO l58.length ([x59] : List (Int)).length).bind fun _ => S_impl_ListOf_j3 F x59 (l58 ++ ([x59] : List (Int)))) else S_impl_ListOf_j3 F x59 l58)) else some (Sum.inr l58))

def S_impl_ListOf (F : Nat) (p0_set : Int) : Option ((List (Int))) :=
  ((S_impl_within F p0_set 0 127).bind fun r12 => (if (!r12) = true then some ([] : List (Int)) else (loopN (σ := ((List Int) × Int)) (β := (((List Int)))) (fun s => S_impl_ListOf_l2 F p0_set s.1 s.2) F (([] : List (Int)), 0)).bind (fun b => S_impl_ListOf_j1 F b)))

def S_impl_EdgesOf_j1 (F : Nat) (l220 : List (List Int)) : Option ((List (List Int))) :=
  some l220

def S_impl_EdgesOf_j3 (F : Nat) (x226 : Int) (l376 : List (List Int)) : Option (((List (List Int)) × Int) ⊕ (((List (List Int))))) :=
  some (Sum.inl (l376, (IntKind.i64.wrap (x226 + 1))))

def S_impl_EdgesOf_j5 (F : Nat) (x384 : Int) (l416 : List (List Int)) : Option (((List (List Int)) × Int) ⊕ (((List (List Int))))) :=
  some (Sum.inl (l416, (IntKind.i64.wrap (x384 + 1))))

def S_impl_EdgesOf_l4 (F : Nat) (p0_g_Size : Int) (x226 : Int) (x379 : Int) (l383 : List (List Int)) (x384 : Int) : Option (((List (List Int)) × Int) ⊕ (((List (List Int))))) :=
  (if (decide (x384 < p0_g_Size)) = true then ((S_impl_has F x379 x384).bind fun r419 => (if r419 = true then ((catO l383.length ([([x226, x384] : List (Int))] : List (List Int)).length).bind fun _ => S_impl_EdgesOf_j5 F x384 (l383 ++ ([([x226, x384] : List (Int))] : List (List Int)))) else S_impl_EdgesOf_j5 F x384 l383)) else some (Sum.inr l383))

def S_impl_EdgesOf_l2 (F : Nat) (p0_g_Size : Int) (p0_g_Rows : List Int) (l225 : List (List Int)) (x226 : Int) : Option (((List (List Int)) × Int) ⊕ (((List (List Int))))) :=
  (if (decide (x226 < (p0_g_Rows.length : Int))) = true then ((idxL p0_g_Rows x226).bind fun x379 => (loopN (σ := ((List (List Int)) × Int)) (β := (((List (List Int))))) (fun s => S_impl_EdgesOf_l4 F p0_g_Size x226 x379 s.1 s.2) F (l225, (IntKind.i64.wrap (x226 + 1)))).bind (fun b => S_impl_EdgesOf_j3 F x226 b)) else some (Sum.inr l225))

def S_impl_EdgesOf (F : Nat) (p0_g_Size : Int) (p0_g_Rows : List Int) : Option ((List (List Int))) :=
  ((S_impl_IsGraph F p0_g_Size p0_g_Rows).bind fun r14 => (if (!r14) = true then some ([] : List (List Int)) else (loopN (σ := ((List (List Int)) × Int)) (β := (((List (List Int))))) (fun s => S_impl_EdgesOf_l2 F p0_g_Size p0_g_Rows s.1 s.2) F (([] : List (List Int)), 0)).bind (fun b => S_impl_EdgesOf_j1 F b)))

def S_impl_FillOf_j2 (F : Nat) (l448 : List (List Int)) : Option ((List (List Int)) × Bool) :=
  some (l448, true)

def S_impl_FillOf_j4 (F : Nat) (x460 : Int) (l520 : List (List Int)) : Option (((List (List Int)) × Int) ⊕ (((List (List Int))))) :=
  some (Sum.inl (l520, (IntKind.i64.wrap (x460 + 1))))

def S_impl_FillOf_l3 (F : Nat) (p0_g_Rows : List Int) (r454 : (List (List Int))) (l459 : List (List Int)) (x460 : Int) : Option (((List (List Int)) × Int) ⊕ (((List (List Int))))) :=
  (if (decide (x460 < (r454.length : Int))) = true then ((idxL r454 x460).bind fun x524 => ((idxL x524 0).bind fun x531 => ((idxL p0_g_Rows x531).bind fun x532 => ((idxL x524 1).bind fun x533 => ((S_impl_has F x532 x533).bind fun r534 => (if (!r534) = true then ((catO l459.length ([x524] : List (List Int)).length).bind fun _ => S_impl_FillOf_j4 F x460 (l459 ++ ([x524] : List (List Int)))) else S_impl_FillOf_j4 F x460 l459)))))) else some (Sum.inr l459))

def S_impl_FillOf_j1 (F : Nat) (p0_g_Rows : List Int) (r18 : Int × (List (Int))) (l357 : List Int) : Option ((List (List Int)) × Bool) :=
  ((S_impl_EdgesOf F r18.1 l357).bind fun r454 => (loopN (σ := ((List (List Int)) × Int)) (β := (((List (List Int))))) (fun s => S_impl_FillOf_l3 F p0_g_Rows r454 s.1 s.2) F (([] : List (List Int)), 0)).bind (fun b => S_impl_FillOf_j2 F b))

def S_impl_FillOf_j6 (F : Nat) (x650 : Int) (l817 : List Int) : Option (((List Int) × Int) ⊕ (((List Int)))) :=
  some (Sum.inl (l817, (IntKind.i64.wrap (x650 + 1))))

def S_impl_FillOf_l7 (F : Nat) (r823 : Int) (r827 : (List (Int))) (l843 : List Int) (x844 : Int) : Option (((List Int) × Int) ⊕ (((List Int)))) :=
  (if (decide (x844 < (r827.length : Int))) = true then ((idxL r827 x844).bind fun x868 => ((idxL l843 x868).bind fun x869 => ((nnO x868).bind fun _ => ((idxL l843 x868).bind fun x870 => some (Sum.inl ((l843.set (x868.toNat) (bOr x869 (bAndNot r823 (shL 1 x868)))), (IntKind.i64.wrap (x844 + 1)))))))) else some (Sum.inr l843))

def S_impl_FillOf_l5 (F : Nat) (p1_order : List Int) (r18 : Int × (List (Int))) (l649 : List Int) (x650 : Int) : Option (((List Int) × Int) ⊕ (((List Int)))) :=
  (if (decide (x650 < (p1_order.length : Int))) = true then ((idxL p1_order x650).bind fun x820 => ((S_impl_LaterNeighbours F r18.1 l649 p1_order x820).bind fun r823 => ((S_impl_ListOf F r823).bind fun r827 => (loopN (σ := ((List Int) × Int)) (β := (((List Int)))) (fun s => S_impl_FillOf_l7 F r823 r827 s.1 s.2) F (l649, 0)).bind (fun b => S_impl_FillOf_j6 F x650 b)))) else some (Sum.inr l649))

def S_impl_FillOf (F : Nat) (p0_g_Size : Int) (p0_g_Rows : List Int) (p1_order : List Int) : Option ((List (List Int)) × Bool) :=
  ((S_impl_IsOrder F p0_g_Size p0_g_Rows p1_order).bind fun r11 => (if (!r11) = true then some (([] : List (List Int)), false) else ((S_impl_copyGraph F p0_g_Size p0_g_Rows).bind fun r18 => (loopN (σ := ((List Int) × Int)) (β := (((List Int)))) (fun s => S_impl_FillOf_l5 F p1_order r18 s.1 s.2) F (r18.2, 0)).bind (fun b => S_impl_FillOf_j1 F p0_g_Rows r18 b))))

def S_laws_eqIntSS_j1 (F : Nat) : Option (Bool) :=
  some true

def S_laws_eqIntSS_l2 (F : Nat) (p0_a : List (List Int)) (p1_b : List (List Int)) (x68 : Int) : Option ((Int) ⊕ (Unit ⊕ Bool)) :=
  (if (decide (x68 < (p0_a.length : Int))) = true then ((idxL p0_a x68).bind fun x119 => ((idxL p1_b x68).bind fun x121 => ((S_laws_eqIntS F x119 x121).bind fun r123 => (if (!r123) = true then some (Sum.inr (Sum.inr false)) else some (Sum.inl (IntKind.i64.wrap (x68 + 1))))))) else some (Sum.inr (Sum.inl ())))

def S_laws_eqIntSS (F : Nat) (p0_a : List (List Int)) (p1_b : List (List Int)) : Option (Bool) :=
  (if ((p0_a.length : Int) != (p1_b.length : Int)) = true then some false else (loopN (σ := Int) (β := (Unit ⊕ Bool)) (fun s => S_laws_eqIntSS_l2 F p0_a p1_b s) F 0).bind (fun b => (match b with | .inl o => S_laws_eqIntSS_j1 F | .inr o => some o)))

def S_laws_FnExactFillOf_j3 (F : Nat) (r116 : Int × (List (List Int))) (p154 : Bool) : Option (Bool) :=
  (if p154 = true then some false else ((S_laws_heldIntSS F r116.2 1).bind fun r159 => (if (decide (r159 < 0)) = true then some false else (if (r159 != r116.1) = true then some false else some true))))

def S_laws_FnExactFillOf_j2 (F : Nat) (p0_aG_Size : Int) (p0_aG_Rows : List Int) (p1_aOrder : List Int) (r30 : (List (List Int)) × Bool) (r49 : (List (List Int)) × Bool) (p111 : Bool) : Option (Bool) :=
  (if p111 = true then some false else ((S_laws_markIntSS F r49.1 1).bind fun r116 => ((S_laws_heldIntSS F r116.2 1).bind fun r120 => (if (decide (r120 < 0)) = true then some false else (if (r120 != r116.1) = true then some false else ((S_laws_toGraph F p0_aG_Size p0_aG_Rows).bind fun r139 => ((S_laws_toIntS F p1_aOrder).bind fun r141 => ((S_impl_FillOf F r139.1 r139.2 r141).bind fun r143 => ((S_laws_eqIntSS F r143.1 r30.1).bind fun r171 => (if (!r171) = true then S_laws_FnExactFillOf_j3 F r116 true else S_laws_FnExactFillOf_j3 F r116 (r143.2 != r30.2)))))))))))

def S_laws_FnExactFillOf_j1 (F : Nat) (p0_aG_Size : Int) (p0_aG_Rows : List Int) (p1_aOrder : List Int) (r30 : (List (List Int)) × Bool) (r37 : Int × (List (Int))) (r43 : (List (Int))) (r49 : (List (List Int)) × Bool) (p60 : Bool) : Option (Bool) :=
  (if p60 = true then some false else ((S_laws_toGraph F p0_aG_Size p0_aG_Rows).bind fun r75 => ((S_laws_eqGraph F r37.1 r37.2 r75.1 r75.2).bind fun r77 => (if (!r77) = true then some false else ((S_laws_toIntS F p1_aOrder).bind fun r92 => ((S_laws_eqIntS F r43 r92).bind fun r94 => (if (!r94) = true then some false else ((S_laws_markGraph F r37.1 r37.2 1).bind fun r99 => ((S_laws_markIntS F r43 r99.1).bind fun r102 => (if (decide (r102.1 < 0)) = true then S_laws_FnExactFillOf_j2 F p0_aG_Size p0_aG_Rows p1_aOrder r30 r49 true else ((S_laws_eqIntSS F r49.1 r30.1).bind fun r172 => (if (!r172) = true then S_laws_FnExactFillOf_j2 F p0_aG_Size p0_aG_Rows p1_aOrder r30 r49 true else S_laws_FnExactFillOf_j2 F p0_aG_Size p0_aG_Rows p1_aOrder r30 r49 (r49.2 != r30.2)))))))))))))

def S_laws_FnExactFillOf (F : Nat) (p0_aG_Size : Int) (p0_aG_Rows : List Int) (p1_aOrder : List Int) : Option (Bool) :=
  (if (decide ((1048576 : Int) < (p1_aOrder.length : Int))) = true then some true else ((S_laws_szGraph F p0_aG_Size p0_aG_Rows 1048576).bind fun r12 => (if (decide (r12 < 0)) = true then some true else ((S_laws_toGraph F p0_aG_Size p0_aG_Rows).bind fun r26 => ((S_laws_toIntS F p1_aOrder).bind fun r28 => ((S_spec_FillOf F r26.1 r26.2 r28).bind fun r30 => ((S_laws_toGraph F p0_aG_Size p0_aG_Rows).bind fun r37 => ((S_laws_toIntS F p1_aOrder).bind fun r43 => ((S_impl_FillOf F r37.1 r37.2 r43).bind fun r49 => ((S_laws_eqIntSS F r49.1 r30.1).bind fun r173 => (if (!r173) = true then S_laws_FnExactFillOf_j1 F p0_aG_Size p0_aG_Rows p1_aOrder r30 r37 r43 r49 true else S_laws_FnExactFillOf_j1 F p0_aG_Size p0_aG_Rows p1_aOrder r30 r37 r43 r49 (r49.2 != r30.2))))))))))))

end Go.Proofs.Ytblbimlobacciaa
