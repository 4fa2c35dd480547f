/- Proved here: nothing but what each Go function of the seat computes, as printed by my translator -/
import Derived.Test.YtilfniehellmmaaK11
namespace Go.Proofs.Ytilfniehellmmaa
open Go Go.RowKit
set_option linter.unusedVariables false
set_option linter.unusedSimpArgs false
set_option maxRecDepth 100000
set_option maxHeartbeats 40000000

def S_spec_l1In_j1 (F : Nat) (p3 : Bool) : Option (Bool) :=
  some p3

def S_spec_l1In (F : Nat) (p0_x : Int) (p1_low : Int) (p2_high : Int) : Option (Bool) :=
  (if (decide (p1_low ≤ p0_x)) = true then S_spec_l1In_j1 F (decide (p0_x ≤ p2_high)) else S_spec_l1In_j1 F false)

def S_spec_SetOf_j1 (F : Nat) (x95 : Int) : Option (Int × Bool) :=
  some (x95, true)

def S_spec_SetOf_j3 (F : Nat) (p0_l : List Int) (x98 : Int) (x99 : Int) (p182 : Bool) : Option ((Int × Int) ⊕ (Int ⊕ (Int × Bool))) :=
  (if p182 = true then some (Sum.inr (Sum.inr (0, false))) else ((idxL p0_l x99).bind fun x184 => ((nnO x184).bind fun _ => some (Sum.inl ((IntKind.i64.wrap (x98 + (shL 1 x184))), (IntKind.i64.wrap (x99 + 1)))))))

def S_spec_SetOf_l2 (F : Nat) (p0_l : List Int) (x98 : Int) (x99 : Int) : Option ((Int × Int) ⊕ (Int ⊕ (Int × Bool))) :=
  (if (decide (x99 < (p0_l.length : Int))) = true then ((idxL p0_l x99).bind fun x185 => ((S_spec_l1In F x185 0 6).bind fun r186 => (if (!r186) = true then S_spec_SetOf_j3 F p0_l x98 x99 true else ((idxL p0_l x99).bind fun x187 => ((nnO x187).bind fun _ => S_spec_SetOf_j3 F p0_l x98 x99 ((bAnd (shR x98 x187) 1) == 1)))))) else some (Sum.inr (Sum.inl x98)))

def S_spec_SetOf (F : Nat) (p0_l : List Int) : Option (Int × Bool) :=
  (loopN (σ := (Int × Int)) (β := (Int ⊕ (Int × Bool))) (fun s => S_spec_SetOf_l2 F p0_l s.1 s.2) F (0, 0)).bind (fun b => (match b with | .inl o => S_spec_SetOf_j1 F o | .inr o => some o))

def S_spec_IsGraph_j2 (F : Nat) : Option (Bool) :=
  some true

def S_spec_IsGraph_j4 (F : Nat) (x319 : Int) : Option ((Int) ⊕ (Unit ⊕ Bool)) :=
  some (Sum.inl (IntKind.i64.wrap (x319 + 1)))

def S_spec_IsGraph_j7 (F : Nat) (x564 : Int) (p611 : Bool) : Option ((Int) ⊕ (Unit ⊕ Bool)) :=
  (if p611 = true then some (Sum.inr (Sum.inr false)) else some (Sum.inl (IntKind.i64.wrap (x564 + 1))))

def S_spec_IsGraph_l6 (F : Nat) (p0_g_Size : Int) (p0_g_Rows : List Int) (x319 : Int) (x564 : Int) : Option ((Int) ⊕ (Unit ⊕ Bool)) :=
  (if (decide (x564 < p0_g_Size)) = true then ((idxL p0_g_Rows x319).bind fun x613 => ((nnO x564).bind fun _ => (if ((bAnd (shR x613 x564) 1) == 1) = true then ((idxL p0_g_Rows x564).bind fun x614 => (if (decide (x614 < 0)) = true then S_spec_IsGraph_j7 F x564 true else ((idxL p0_g_Rows x564).bind fun x615 => ((nnO p0_g_Size).bind fun _ => (if (decide ((shL 1 p0_g_Size) ≤ x615)) = true then S_spec_IsGraph_j7 F x564 true else ((idxL p0_g_Rows x564).bind fun x616 => ((nnO x319).bind fun _ => S_spec_IsGraph_j7 F x564 ((bAnd (shR x616 x319) 1) == 0)))))))) else S_spec_IsGraph_j7 F x564 false))) else some (Sum.inr (Sum.inl ())))

def S_spec_IsGraph_j5 (F : Nat) (p0_g_Size : Int) (p0_g_Rows : List Int) (x319 : Int) (p561 : Bool) : Option ((Int) ⊕ (Unit ⊕ Bool)) :=
  (if p561 = true then some (Sum.inr (Sum.inr false)) else (loopN (σ := Int) (β := (Unit ⊕ Bool)) (fun s => S_spec_IsGraph_l6 F p0_g_Size p0_g_Rows x319 s) F 0).bind (fun b => (match b with | .inl o => S_spec_IsGraph_j4 F x319 | .inr o => some (Sum.inr (Sum.inr o)))))

def S_spec_IsGraph_l3 (F : Nat) (p0_g_Size : Int) (p0_g_Rows : List Int) (x319 : Int) : Option ((Int) ⊕ (Unit ⊕ Bool)) :=
  (if (decide (x319 < p0_g_Size)) = true then ((idxL p0_g_Rows x319).bind fun x617 => (if (decide (x617 < 0)) = true then S_spec_IsGraph_j5 F p0_g_Size p0_g_Rows x319 true else ((idxL p0_g_Rows x319).bind fun x618 => ((nnO p0_g_Size).bind fun _ => (if (decide ((shL 1 p0_g_Size) ≤ x618)) = true then S_spec_IsGraph_j5 F p0_g_Size p0_g_Rows x319 true else ((idxL p0_g_Rows x319).bind fun x619 => ((nnO x319).bind fun _ => S_spec_IsGraph_j5 F p0_g_Size p0_g_Rows x319 ((bAnd (shR x619 x319) 1) == 1)))))))) else some (Sum.inr (Sum.inl ())))

def S_spec_IsGraph_j1 (F : Nat) (p0_g_Size : Int) (p0_g_Rows : List Int) (p12 : Bool) : Option (Bool) :=
  (if p12 = true then some false else (loopN (σ := Int) (β := (Unit ⊕ Bool)) (fun s => S_spec_IsGraph_l3 F p0_g_Size p0_g_Rows s) F 0).bind (fun b => (match b with | .inl o => S_spec_IsGraph_j2 F | .inr o => some o)))

def S_spec_IsGraph (F : Nat) (p0_g_Size : Int) (p0_g_Rows : List Int) : Option (Bool) :=
  ((S_spec_l1In F p0_g_Size 1 7).bind fun r620 => (if (!r620) = true then S_spec_IsGraph_j1 F p0_g_Size p0_g_Rows true else S_spec_IsGraph_j1 F p0_g_Size p0_g_Rows ((p0_g_Rows.length : Int) != p0_g_Size)))

def S_spec_IsSet_j1 (F : Nat) (p6 : Bool) : Option (Bool) :=
  some p6

def S_spec_IsSet (F : Nat) (p0_g_Size : Int) (p0_g_Rows : List Int) (p1_set : Int) : Option (Bool) :=
  ((S_spec_IsGraph F p0_g_Size p0_g_Rows).bind fun r7 => (if r7 = true then (if (decide ((0 : Int) ≤ p1_set)) = true then ((nnO p0_g_Size).bind fun _ => S_spec_IsSet_j1 F (decide (p1_set < (shL 1 p0_g_Size)))) else S_spec_IsSet_j1 F false) else S_spec_IsSet_j1 F false))

def S_spec_l4Distinct_j1 (F : Nat) (p10 : Bool) : Option (Bool) :=
  some p10

def S_spec_l4Distinct (F : Nat) (p0_g_Size : Int) (p0_g_Rows : List Int) (p1_l : List Int) : Option (Bool) :=
  ((S_spec_SetOf F p1_l).bind fun r6 => ((S_spec_IsGraph F p0_g_Size p0_g_Rows).bind fun r11 => (if r11 = true then (if r6.2 = true then ((S_spec_IsSet F p0_g_Size p0_g_Rows r6.1).bind fun r12 => S_spec_l4Distinct_j1 F r12) else S_spec_l4Distinct_j1 F false) else S_spec_l4Distinct_j1 F false)))

def S_spec_l2Edge (F : Nat) (p0_g_Size : Int) (p0_g_Rows : List Int) (p1_v : Int) (p2_w : Int) : Option (Bool) :=
  ((idxL p0_g_Rows p1_v).bind fun x6 => ((nnO p2_w).bind fun _ => some ((bAnd (shR x6 p2_w) 1) == 1)))

def S_spec_IsClaw_j1 (F : Nat) (p24 : Bool) : Option (Bool) :=
  some p24

def S_spec_IsClaw (F : Nat) (p0_g_Size : Int) (p0_g_Rows : List Int) (p1_l : List Int) : Option (Bool) :=
  (if ((p1_l.length : Int) == 4) = true then ((S_spec_l4Distinct F p0_g_Size p0_g_Rows p1_l).bind fun r25 => (if r25 = true then ((idxL p1_l 0).bind fun x26 => ((idxL p1_l 1).bind fun x27 => ((S_spec_l2Edge F p0_g_Size p0_g_Rows x26 x27).bind fun r28 => (if r28 = true then ((idxL p1_l 0).bind fun x29 => ((idxL p1_l 2).bind fun x30 => ((S_spec_l2Edge F p0_g_Size p0_g_Rows x29 x30).bind fun r31 => (if r31 = true then ((idxL p1_l 0).bind fun x32 => ((idxL p1_l 3).bind fun x33 => ((S_spec_l2Edge F p0_g_Size p0_g_Rows x32 x33).bind fun r34 => (if r34 = true then ((idxL p1_l 1).bind fun x35 => ((idxL p1_l 2).bind fun x36 => ((S_spec_l2Edge F p0_g_Size p0_g_Rows x35 x36).bind fun r37 => (if (!r37) = true then ((idxL p1_l 1).bind fun x38 => ((idxL p1_l 3).bind fun x39 => ((S_spec_l2Edge F p0_g_Size p0_g_Rows x38 x39).bind fun r40 => (if (!r40) = true then ((idxL p1_l 2).bind fun x41 => ((idxL p1_l 3).bind fun x42 => ((S_spec_l2Edge F p0_g_Size p0_g_Rows x41 x42).bind fun r43 => S_spec_IsClaw_j1 F (!r43)))) else S_spec_IsClaw_j1 F false)))) else S_spec_IsClaw_j1 F false)))) else S_spec_IsClaw_j1 F false)))) else S_spec_IsClaw_j1 F false)))) else S_spec_IsClaw_j1 F false)))) else S_spec_IsClaw_j1 F false)) else S_spec_IsClaw_j1 F false)

def S_spec_IsTwoEdges_j1 (F : Nat) (p24 : Bool) : Option (Bool) :=
  some p24

def S_spec_IsTwoEdges (F : Nat) (p0_g_Size : Int) (p0_g_Rows : List Int) (p1_l : List Int) : Option (Bool) :=
  (if ((p1_l.length : Int) == 4) = true then ((S_spec_l4Distinct F p0_g_Size p0_g_Rows p1_l).bind fun r25 => (if r25 = true then ((idxL p1_l 0).bind fun x26 => ((idxL p1_l 1).bind fun x27 => ((S_spec_l2Edge F p0_g_Size p0_g_Rows x26 x27).bind fun r28 => (if r28 = true then ((idxL p1_l 2).bind fun x29 => ((idxL p1_l 3).bind fun x30 => ((S_spec_l2Edge F p0_g_Size p0_g_Rows x29 x30).bind fun r31 => (if r31 = true then ((idxL p1_l 0).bind fun x32 => ((idxL p1_l 2).bind fun x33 => ((S_spec_l2Edge F p0_g_Size p0_g_Rows x32 x33).bind fun r34 => (if (!r34) = true then ((idxL p1_l 0).bind fun x35 => ((idxL p1_l 3).bind fun x36 => ((S_spec_l2Edge F p0_g_Size p0_g_Rows x35 x36).bind fun r37 => (if (!r37) = true then ((idxL p1_l 1).bind fun x38 => ((idxL p1_l 2).bind fun x39 => ((S_spec_l2Edge F p0_g_Size p0_g_Rows x38 x39).bind fun r40 => (if (!r40) = true then ((idxL p1_l 1).bind fun x41 => ((idxL p1_l 3).bind fun x42 => ((S_spec_l2Edge F p0_g_Size p0_g_Rows x41 x42).bind fun r43 => S_spec_IsTwoEdges_j1 F (!r43)))) else S_spec_IsTwoEdges_j1 F false)))) else S_spec_IsTwoEdges_j1 F false)))) else S_spec_IsTwoEdges_j1 F false)))) else S_spec_IsTwoEdges_j1 F false)))) else S_spec_IsTwoEdges_j1 F false)))) else S_spec_IsTwoEdges_j1 F false)) else S_spec_IsTwoEdges_j1 F false)

def S_spec_l4Four_j1 (F : Nat) : Option ((List (Int)) × Bool) :=
  some (([] : List (Int)), false)

def S_spec_l4Four_j4 (F : Nat) (p0_g_Size : Int) (x83 : Int) (p150 : Bool) : Option ((Int) ⊕ (Unit ⊕ ((List (Int)) × Bool))) :=
  (if p150 = true then some (Sum.inr (Sum.inr (([(IntKind.i64.wrap (x83.tdiv (IntKind.i64.wrap ((IntKind.i64.wrap (p0_g_Size * p0_g_Size)) * p0_g_Size)))), ((IntKind.i64.wrap (x83.tdiv (IntKind.i64.wrap (p0_g_Size * p0_g_Size)))).tmod p0_g_Size), ((IntKind.i64.wrap (x83.tdiv p0_g_Size)).tmod p0_g_Size), (x83.tmod p0_g_Size)] : List (Int)), true))) else some (Sum.inl (IntKind.i64.wrap (x83 + 1))))

def S_spec_l4Four_j3 (F : Nat) (p0_g_Size : Int) (p0_g_Rows : List Int) (p1_kind : Int) (x83 : Int) (p127 : Bool) : Option ((Int) ⊕ (Unit ⊕ ((List (Int)) × Bool))) :=
  (if p127 = true then ((nzO (IntKind.i64.wrap ((IntKind.i64.wrap (p0_g_Size * p0_g_Size)) * p0_g_Size))).bind fun _ => ((nzO (IntKind.i64.wrap (p0_g_Size * p0_g_Size))).bind fun _ => ((nzO p0_g_Size).bind fun _ => ((nzO p0_g_Size).bind fun _ => ((nzO p0_g_Size).bind fun _ => ((nzO p0_g_Size).bind fun _ => (if (p1_kind == 0) = true then ((S_spec_IsTwoEdges F p0_g_Size p0_g_Rows ([(IntKind.i64.wrap (x83.tdiv (IntKind.i64.wrap ((IntKind.i64.wrap (p0_g_Size * p0_g_Size)) * p0_g_Size)))), ((IntKind.i64.wrap (x83.tdiv (IntKind.i64.wrap (p0_g_Size * p0_g_Size)))).tmod p0_g_Size), ((IntKind.i64.wrap (x83.tdiv p0_g_Size)).tmod p0_g_Size), (x83.tmod p0_g_Size)] : List (Int))).bind fun r152 => (if r152 = true then S_spec_l4Four_j4 F p0_g_Size x83 true else (if (p1_kind == 1) = true then ((S_spec_IsClaw F p0_g_Size p0_g_Rows ([(IntKind.i64.wrap (x83.tdiv (IntKind.i64.wrap ((IntKind.i64.wrap (p0_g_Size * p0_g_Size)) * p0_g_Size)))), ((IntKind.i64.wrap (x83.tdiv (IntKind.i64.wrap (p0_g_Size * p0_g_Size)))).tmod p0_g_Size), ((IntKind.i64.wrap (x83.tdiv p0_g_Size)).tmod p0_g_Size), (x83.tmod p0_g_Size)] : List (Int))).bind fun r153 => S_spec_l4Four_j4 F p0_g_Size x83 r153) else S_spec_l4Four_j4 F p0_g_Size x83 false))) else (if (p1_kind == 1) = true then ((S_spec_IsClaw F p0_g_Size p0_g_Rows ([(IntKind.i64.wrap (x83.tdiv (IntKind.i64.wrap ((IntKind.i64.wrap (p0_g_Size * p0_g_Size)) * p0_g_Size)))), ((IntKind.i64.wrap (x83.tdiv (IntKind.i64.wrap (p0_g_Size * p0_g_Size)))).tmod p0_g_Size), ((IntKind.i64.wrap (x83.tdiv p0_g_Size)).tmod p0_g_Size), (x83.tmod p0_g_Size)] : List (Int))).bind fun r154 => S_spec_l4Four_j4 F p0_g_Size x83 r154) else S_spec_l4Four_j4 F p0_g_Size x83 false)))))))) else some (Sum.inr (Sum.inl ())))

def S_spec_l4Four_l2 (F : Nat) (p0_g_Size : Int) (p0_g_Rows : List Int) (p1_kind : Int) (x83 : Int) : Option ((Int) ⊕ (Unit ⊕ ((List (Int)) × Bool))) :=
  ((S_spec_IsGraph F p0_g_Size p0_g_Rows).bind fun r155 => (if r155 = true then S_spec_l4Four_j3 F p0_g_Size p0_g_Rows p1_kind x83 (decide (x83 < (IntKind.i64.wrap ((IntKind.i64.wrap ((IntKind.i64.wrap (p0_g_Size * p0_g_Size)) * p0_g_Size)) * p0_g_Size)))) else S_spec_l4Four_j3 F p0_g_Size p0_g_Rows p1_kind x83 false))

def S_spec_l4Four (F : Nat) (p0_g_Size : Int) (p0_g_Rows : List Int) (p1_kind : Int) : Option ((List (Int)) × Bool) :=
  (loopN (σ := Int) (β := (Unit ⊕ ((List (Int)) × Bool))) (fun s => S_spec_l4Four_l2 F p0_g_Size p0_g_Rows p1_kind s) F 0).bind (fun b => (match b with | .inl o => S_spec_l4Four_j1 F | .inr o => some o))

def S_spec_FindClaw (F : Nat) (p0_g_Size : Int) (p0_g_Rows : List Int) : Option ((List (Int)) × Bool) :=
  ((S_spec_l4Four F p0_g_Size p0_g_Rows 1).bind fun r7 => some (r7.1, r7.2))

def S_slices_Index_int_j1 (F : Nat) : Option (Int) :=
  some (-1)

def S_slices_Index_int_l2 (F : Nat) (p0_s : List Int) (p1_v : Int) (x33 : Int) : Option ((Int) ⊕ (Unit ⊕ Int)) :=
  (if (decide (x33 < (p0_s.length : Int))) = true then ((idxL p0_s x33).bind fun x58 => (if (p1_v == x58) = true then some (Sum.inr (Sum.inr x33)) else some (Sum.inl (IntKind.i64.wrap (x33 + 1))))) else some (Sum.inr (Sum.inl ())))

def S_slices_Index_int (F : Nat) (p0_s : List Int) (p1_v : Int) : Option (Int) :=
  (loopN (σ := Int) (β := (Unit ⊕ Int)) (fun s => S_slices_Index_int_l2 F p0_s p1_v s) F 0).bind (fun b => (match b with | .inl o => S_slices_Index_int_j1 F | .inr o => some o))

def S_slices_Contains_int (F : Nat) (p0_s : List Int) (p1_v : Int) : Option (Bool) :=
  ((S_slices_Index_int F p0_s p1_v).bind fun r4 => some (decide ((0 : Int) ≤ r4)))

def S_impl_has (F : Nat) (p0_set : Int) (p1_v : Int) : Option (Bool) :=
  ((nnO p1_v).bind fun _ => some ((bAnd (shR p0_set p1_v) 1) == 1))

def S_impl_within_j1 (F : Nat) (p3 : Bool) : Option (Bool) :=
  some p3

def S_impl_within (F : Nat) (p0_n : Int) (p1_low : Int) (p2_high : Int) : Option (Bool) :=
  (if (decide (p1_low ≤ p0_n)) = true then S_impl_within_j1 F (decide (p0_n ≤ p2_high)) else S_impl_within_j1 F false)

def S_impl_IsGraph_j3 (F : Nat) : Option (Bool) :=
  some true

def S_impl_IsGraph_j5 (F : Nat) (x262 : Int) : Option ((Int) ⊕ (Unit ⊕ Bool)) :=
  some (Sum.inl (IntKind.i64.wrap (x262 + 1)))

def S_impl_IsGraph_l6 (F : Nat) (p0_g_Rows : List Int) (x262 : Int) (x412 : Int) (x414 : Int) : Option ((Int) ⊕ (Unit ⊕ Bool)) :=
  (if (decide (x414 < x262)) = true then ((idxL p0_g_Rows x414).bind fun x453 => ((S_impl_has F x412 x414).bind fun r454 => ((S_impl_has F x453 x262).bind fun r455 => (if (r454 != r455) = true then some (Sum.inr (Sum.inr false)) else some (Sum.inl (IntKind.i64.wrap (x414 + 1))))))) else some (Sum.inr (Sum.inl ())))

def S_impl_IsGraph_l4 (F : Nat) (p0_g_Rows : List Int) (x262 : Int) : Option ((Int) ⊕ (Unit ⊕ Bool)) :=
  (if (decide (x262 < (p0_g_Rows.length : Int))) = true then ((idxL p0_g_Rows x262).bind fun x412 => (loopN (σ := Int) (β := (Unit ⊕ Bool)) (fun s => S_impl_IsGraph_l6 F p0_g_Rows x262 x412 s) F 0).bind (fun b => (match b with | .inl o => S_impl_IsGraph_j5 F x262 | .inr o => some (Sum.inr (Sum.inr o))))) else some (Sum.inr (Sum.inl ())))

def S_impl_IsGraph_j2 (F : Nat) (p0_g_Rows : List Int) : Option (Bool) :=
  (loopN (σ := Int) (β := (Unit ⊕ Bool)) (fun s => S_impl_IsGraph_l4 F p0_g_Rows s) F 0).bind (fun b => (match b with | .inl o => S_impl_IsGraph_j3 F | .inr o => some o))

def S_impl_IsGraph_j8 (F : Nat) (x458 : Int) (p501 : Bool) : Option ((Int) ⊕ (Unit ⊕ Bool)) :=
  (if p501 = true then some (Sum.inr (Sum.inr false)) else some (Sum.inl (IntKind.i64.wrap (x458 + 1))))

def S_impl_IsGraph_l7 (F : Nat) (p0_g_Size : Int) (p0_g_Rows : List Int) (x458 : Int) : Option ((Int) ⊕ (Unit ⊕ Bool)) :=
  (if (decide (x458 < (p0_g_Rows.length : Int))) = true then ((idxL p0_g_Rows x458).bind fun x497 => ((nnO p0_g_Size).bind fun _ => ((S_impl_within F x497 0 (IntKind.i64.wrap ((shL 1 p0_g_Size) - 1))).bind fun r503 => (if (!r503) = true then S_impl_IsGraph_j8 F x458 true else ((S_impl_has F x497 x458).bind fun r504 => S_impl_IsGraph_j8 F x458 r504))))) else some (Sum.inr (Sum.inl ())))

def S_impl_IsGraph_j1 (F : Nat) (p0_g_Size : Int) (p0_g_Rows : List Int) (p12 : Bool) : Option (Bool) :=
  (if p12 = true then some false else (loopN (σ := Int) (β := (Unit ⊕ Bool)) (fun s => S_impl_IsGraph_l7 F p0_g_Size p0_g_Rows s) F 0).bind (fun b => (match b with | .inl o => S_impl_IsGraph_j2 F p0_g_Rows | .inr o => some o)))

def S_impl_IsGraph (F : Nat) (p0_g_Size : Int) (p0_g_Rows : List Int) : Option (Bool) :=
  ((S_impl_within F p0_g_Size 1 7).bind fun r505 => (if (!r505) = true then S_impl_IsGraph_j1 F p0_g_Size p0_g_Rows true else S_impl_IsGraph_j1 F p0_g_Size p0_g_Rows ((p0_g_Rows.length : Int) != p0_g_Size)))

def S_impl_areVertices_j1 (F : Nat) (p0_g_Size : Int) (p0_g_Rows : List Int) : Option (Bool) :=
  ((S_impl_IsGraph F p0_g_Size p0_g_Rows).bind fun r63 => some r63)

def S_impl_areVertices_j3 (F : Nat) (x65 : Int) (p115 : Bool) : Option ((Int) ⊕ (Unit ⊕ Bool)) :=
  (if p115 = true then some (Sum.inr (Sum.inr false)) else some (Sum.inl (IntKind.i64.wrap (x65 + 1))))

def S_impl_areVertices_l2 (F : Nat) (p0_g_Size : Int) (p1_l : List Int) (x65 : Int) : Option ((Int) ⊕ (Unit ⊕ Bool)) :=
  (if (decide (x65 < (p1_l.length : Int))) = true then ((idxL p1_l x65).bind fun x110 => ((S_impl_within F x110 0 (IntKind.i64.wrap (p0_g_Size - 1))).bind fun r117 => (if (!r117) = true then S_impl_areVertices_j3 F x65 true else ((slO p1_l.length x65).bind fun _ => ((S_slices_Contains_int F (p1_l.take (x65.toNat)) x110).bind fun r119 => S_impl_areVertices_j3 F x65 r119))))) else some (Sum.inr (Sum.inl ())))

def S_impl_areVertices (F : Nat) (p0_g_Size : Int) (p0_g_Rows : List Int) (p1_l : List Int) : Option (Bool) :=
  (loopN (σ := Int) (β := (Unit ⊕ Bool)) (fun s => S_impl_areVertices_l2 F p0_g_Size p1_l s) F 0).bind (fun b => (match b with | .inl o => S_impl_areVertices_j1 F p0_g_Size p0_g_Rows | .inr o => some o))

def S_impl_IsClaw_c1 (F : Nat) (p0_i : Int) (p1_k : Int) : Option (Bool) :=
  some (p0_i == 0)

def S_impl_areJoined__IsClawc1_j1 (F : Nat) : Option (Bool) :=
  some true

def S_impl_areJoined__IsClawc1_j3 (F : Nat) (x268 : Int) : Option ((Int) ⊕ (Unit ⊕ Bool)) :=
  some (Sum.inl (IntKind.i64.wrap (x268 + 1)))

def S_impl_areJoined__IsClawc1_l4 (F : Nat) (p0_g_Rows : List Int) (p1_l : List Int) (x268 : Int) (x460 : Int) : Option ((Int) ⊕ (Unit ⊕ Bool)) :=
  (if (decide (x460 < x268)) = true then ((idxL p1_l x460).bind fun x513 => ((idxL p0_g_Rows x513).bind fun x514 => ((idxL p1_l x268).bind fun x515 => ((S_impl_has F x514 x515).bind fun r516 => ((S_impl_IsClaw_c1 F x460 x268).bind fun r517 => (if (r516 != r517) = true then some (Sum.inr (Sum.inr false)) else some (Sum.inl (IntKind.i64.wrap (x460 + 1))))))))) else some (Sum.inr (Sum.inl ())))

def S_impl_areJoined__IsClawc1_l2 (F : Nat) (p0_g_Rows : List Int) (p1_l : List Int) (x268 : Int) : Option ((Int) ⊕ (Unit ⊕ Bool)) :=
  (if (decide (x268 < (p1_l.length : Int))) = true then (loopN (σ := Int) (β := (Unit ⊕ Bool)) (fun s => S_impl_areJoined__IsClawc1_l4 F p0_g_Rows p1_l x268 s) F 0).bind (fun b => (match b with | .inl o => S_impl_areJoined__IsClawc1_j3 F x268 | .inr o => some (Sum.inr (Sum.inr o)))) else some (Sum.inr (Sum.inl ())))

def S_impl_areJoined__IsClawc1 (F : Nat) (p0_g_Size : Int) (p0_g_Rows : List Int) (p1_l : List Int) : Option (Bool) :=
  ((S_impl_areVertices F p0_g_Size p0_g_Rows p1_l).bind fun r11 => (if (!r11) = true then some false else (loopN (σ := Int) (β := (Unit ⊕ Bool)) (fun s => S_impl_areJoined__IsClawc1_l2 F p0_g_Rows p1_l s) F 0).bind (fun b => (match b with | .inl o => S_impl_areJoined__IsClawc1_j1 F | .inr o => some o))))

def S_impl_IsClaw_j1 (F : Nat) (p6 : Bool) : Option (Bool) :=
  some p6

def S_impl_IsClaw (F : Nat) (p0_g_Size : Int) (p0_g_Rows : List Int) (p1_l : List Int) : Option (Bool) :=
  (if ((p1_l.length : Int) == 4) = true then ((S_impl_areJoined__IsClawc1 F p0_g_Size p0_g_Rows p1_l).bind fun r7 => S_impl_IsClaw_j1 F r7) else S_impl_IsClaw_j1 F false)

def S_impl_FindClaw_c1 (F : Nat) (p0_l : List Int) (q0_Size : Int) (q0_Rows : List Int) : Option (Bool) :=
  ((S_impl_IsClaw F q0_Size q0_Rows p0_l).bind fun r4 => some r4)

def S_slices_Clone_int (F : Nat) (p0_s : List Int) : Option ((List (Int))) :=
  ((neO p0_s.length).bind fun _ => ((catO ([] : List (Int)).length p0_s.length).bind fun _ => some (([] : List (Int)) ++ p0_s)))

def S_impl_always (F : Nat) (p0_l : List Int) : Option (Bool) :=
  some true

def S_impl_firstList_c1__FindClawc1__always__firstListc1_j1 (F : Nat) : Option ((Option (List Int))) :=
  some none

def S_impl_firstList_c1__FindClawc1__always__firstListc1_j3 (F : Nat) (x148 : Int) : Option ((Int) ⊕ (Unit ⊕ ((Option (List Int))))) :=
  some (Sum.inl (IntKind.i64.wrap (x148 + 1)))

def S_impl_firstList_c1__FindClawc1__always__firstListc1_j4 (F : Nat) (p0_l : List Int) (q0_v : Int) (q1_v_c0_Size : Int) (q1_v_c0_Rows : List Int) (q2_Size : Int) (q2_Rows : List Int) (slf : (List Int) → Int → Int → (List Int) → Int → (List Int) → Option ((Option (List Int)))) (x148 : Int) (p238 : Bool) : Option ((Int) ⊕ (Unit ⊕ ((Option (List Int))))) :=
  (if p238 = true then ((slf (p0_l.take ((p0_l.length : Int).toNat) ++ ([x148] : List (Int))) q0_v q1_v_c0_Size q1_v_c0_Rows q2_Size q2_Rows).bind fun r243 => (match r243 with | none => S_impl_firstList_c1__FindClawc1__always__firstListc1_j3 F x148 | some c245 => ((neO c245.length).bind fun _ => some (Sum.inr (Sum.inr (some c245)))))) else S_impl_firstList_c1__FindClawc1__always__firstListc1_j3 F x148)

def S_impl_firstList_c1__FindClawc1__always__firstListc1_l2 (F : Nat) (p0_l : List Int) (q0_v : Int) (q1_v_c0_Size : Int) (q1_v_c0_Rows : List Int) (q2_Size : Int) (q2_Rows : List Int) (slf : (List Int) → Int → Int → (List Int) → Int → (List Int) → Option ((Option (List Int)))) (x148 : Int) : Option ((Int) ⊕ (Unit ⊕ ((Option (List Int))))) :=
  (if (decide (x148 < q2_Size)) = true then ((slO p0_l.length (p0_l.length : Int)).bind fun _ => ((catO (p0_l.take ((p0_l.length : Int).toNat)).length ([x148] : List (Int)).length).bind fun _ => ((S_slices_Contains_int F p0_l x148).bind fun r249 => (if (!r249) = true then ((S_impl_always F (p0_l.take ((p0_l.length : Int).toNat) ++ ([x148] : List (Int)))).bind fun r250 => S_impl_firstList_c1__FindClawc1__always__firstListc1_j4 F p0_l q0_v q1_v_c0_Size q1_v_c0_Rows q2_Size q2_Rows slf x148 r250) else S_impl_firstList_c1__FindClawc1__always__firstListc1_j4 F p0_l q0_v q1_v_c0_Size q1_v_c0_Rows q2_Size q2_Rows slf x148 false)))) else some (Sum.inr (Sum.inl ())))

def S_impl_firstList_c1__FindClawc1__always__firstListc1_b (F : Nat) (slf : (List Int) → Int → Int → (List Int) → Int → (List Int) → Option ((Option (List Int)))) (p0_l : List Int) (q0_v : Int) (q1_v_c0_Size : Int) (q1_v_c0_Rows : List Int) (q2_Size : Int) (q2_Rows : List Int) : Option ((Option (List Int))) :=
  (if ((p0_l.length : Int) == q0_v) = true then ((S_impl_FindClaw_c1 F p0_l q1_v_c0_Size q1_v_c0_Rows).bind fun r34 => (if r34 = true then ((S_slices_Clone_int F p0_l).bind fun r38 => some (some r38)) else some none)) else (loopN (σ := Int) (β := (Unit ⊕ ((Option (List Int))))) (fun s => S_impl_firstList_c1__FindClawc1__always__firstListc1_l2 F p0_l q0_v q1_v_c0_Size q1_v_c0_Rows q2_Size q2_Rows slf s) F 0).bind (fun b => (match b with | .inl o => S_impl_firstList_c1__FindClawc1__always__firstListc1_j1 F | .inr o => some o)))

def S_impl_firstList_c1__FindClawc1__always__firstListc1_d (F : Nat) : Nat → (List Int) → Int → Int → (List Int) → Int → (List Int) → Option ((Option (List Int)))
  | 0, _, _, _, _, _, _ => none
  | D + 1, p0_l, q0_v, q1_v_c0_Size, q1_v_c0_Rows, q2_Size, q2_Rows => S_impl_firstList_c1__FindClawc1__always__firstListc1_b F (S_impl_firstList_c1__FindClawc1__always__firstListc1_d F D) p0_l q0_v q1_v_c0_Size q1_v_c0_Rows q2_Size q2_Rows

def S_impl_firstList_c1__FindClawc1__always__firstListc1 (F : Nat) (p0_l : List Int) (q0_v : Int) (q1_v_c0_Size : Int) (q1_v_c0_Rows : List Int) (q2_Size : Int) (q2_Rows : List Int) : Option ((Option (List Int))) :=
  S_impl_firstList_c1__FindClawc1__always__firstListc1_d F F p0_l q0_v q1_v_c0_Size q1_v_c0_Rows q2_Size q2_Rows

def S_impl_firstList__always__FindClawc1 (F : Nat) (p0_g_Size : Int) (p0_g_Rows : List Int) (p1_n : Int) (p3_holds_c0_Size : Int) (p3_holds_c0_Rows : List Int) : Option ((List (Int)) × Bool) :=
  ((S_impl_IsGraph F p0_g_Size p0_g_Rows).bind fun r21 => (if (!r21) = true then some (([] : List (Int)), false) else ((S_impl_firstList_c1__FindClawc1__always__firstListc1 F ([] : List (Int)) p1_n p3_holds_c0_Size p3_holds_c0_Rows p0_g_Size p0_g_Rows).bind fun r27 => (match r27 with | none => some (([] : List (Int)), false) | some c29 => ((neO c29.length).bind fun _ => some (c29, true))))))

def S_impl_FindClaw (F : Nat) (p0_g_Size : Int) (p0_g_Rows : List Int) : Option ((List (Int)) × Bool) :=
  ((S_impl_firstList__always__FindClawc1 F p0_g_Size p0_g_Rows 4 p0_g_Size p0_g_Rows).bind fun r7 => some (r7.1, r7.2))

def S_spec_FindTwoEdges (F : Nat) (p0_g_Size : Int) (p0_g_Rows : List Int) : Option ((List (Int)) × Bool) :=
  ((S_spec_l4Four F p0_g_Size p0_g_Rows 0).bind fun r7 => some (r7.1, r7.2))

def S_impl_IsTwoEdges_c1_j1 (F : Nat) (p3 : Bool) : Option (Bool) :=
  some p3

def S_impl_IsTwoEdges_c1 (F : Nat) (p0_i : Int) (p1_k : Int) : Option (Bool) :=
  (if (p0_i == 0) = true then (if (p1_k == 1) = true then S_impl_IsTwoEdges_c1_j1 F true else (if (p0_i == 2) = true then S_impl_IsTwoEdges_c1_j1 F (p1_k == 3) else S_impl_IsTwoEdges_c1_j1 F false)) else (if (p0_i == 2) = true then S_impl_IsTwoEdges_c1_j1 F (p1_k == 3) else S_impl_IsTwoEdges_c1_j1 F false))

def S_impl_areJoined__IsTwoEdgesc1_j1 (F : Nat) : Option (Bool) :=
  some true

def S_impl_areJoined__IsTwoEdgesc1_j3 (F : Nat) (x268 : Int) : Option ((Int) ⊕ (Unit ⊕ Bool)) :=
  some (Sum.inl (IntKind.i64.wrap (x268 + 1)))

def S_impl_areJoined__IsTwoEdgesc1_l4 (F : Nat) (p0_g_Rows : List Int) (p1_l : List Int) (x268 : Int) (x460 : Int) : Option ((Int) ⊕ (Unit ⊕ Bool)) :=
  (if (decide (x460 < x268)) = true then ((idxL p1_l x460).bind fun x513 => ((idxL p0_g_Rows x513).bind fun x514 => ((idxL p1_l x268).bind fun x515 => ((S_impl_has F x514 x515).bind fun r516 => ((S_impl_IsTwoEdges_c1 F x460 x268).bind fun r517 => (if (r516 != r517) = true then some (Sum.inr (Sum.inr false)) else some (Sum.inl (IntKind.i64.wrap (x460 + 1))))))))) else some (Sum.inr (Sum.inl ())))

def S_impl_areJoined__IsTwoEdgesc1_l2 (F : Nat) (p0_g_Rows : List Int) (p1_l : List Int) (x268 : Int) : Option ((Int) ⊕ (Unit ⊕ Bool)) :=
  (if (decide (x268 < (p1_l.length : Int))) = true then (loopN (σ := Int) (β := (Unit ⊕ Bool)) (fun s => S_impl_areJoined__IsTwoEdgesc1_l4 F p0_g_Rows p1_l x268 s) F 0).bind (fun b => (match b with | .inl o => S_impl_areJoined__IsTwoEdgesc1_j3 F x268 | .inr o => some (Sum.inr (Sum.inr o)))) else some (Sum.inr (Sum.inl ())))

def S_impl_areJoined__IsTwoEdgesc1 (F : Nat) (p0_g_Size : Int) (p0_g_Rows : List Int) (p1_l : List Int) : Option (Bool) :=
  ((S_impl_areVertices F p0_g_Size p0_g_Rows p1_l).bind fun r11 => (if (!r11) = true then some false else (loopN (σ := Int) (β := (Unit ⊕ Bool)) (fun s => S_impl_areJoined__IsTwoEdgesc1_l2 F p0_g_Rows p1_l s) F 0).bind (fun b => (match b with | .inl o => S_impl_areJoined__IsTwoEdgesc1_j1 F | .inr o => some o))))

def S_impl_IsTwoEdges_j1 (F : Nat) (p6 : Bool) : Option (Bool) :=
  some p6

def S_impl_IsTwoEdges (F : Nat) (p0_g_Size : Int) (p0_g_Rows : List Int) (p1_l : List Int) : Option (Bool) :=
  (if ((p1_l.length : Int) == 4) = true then ((S_impl_areJoined__IsTwoEdgesc1 F p0_g_Size p0_g_Rows p1_l).bind fun r7 => S_impl_IsTwoEdges_j1 F r7) else S_impl_IsTwoEdges_j1 F false)

def S_impl_FindTwoEdges_c1 (F : Nat) (p0_l : List Int) (q0_Size : Int) (q0_Rows : List Int) : Option (Bool) :=
  ((S_impl_IsTwoEdges F q0_Size q0_Rows p0_l).bind fun r4 => some r4)

def S_impl_firstList_c1__FindTwoEdgesc1__always__firstListc1_j1 (F : Nat) : Option ((Option (List Int))) :=
  some none

def S_impl_firstList_c1__FindTwoEdgesc1__always__firstListc1_j3 (F : Nat) (x148 : Int) : Option ((Int) ⊕ (Unit ⊕ ((Option (List Int))))) :=
  some (Sum.inl (IntKind.i64.wrap (x148 + 1)))

def S_impl_firstList_c1__FindTwoEdgesc1__always__firstListc1_j4 (F : Nat) (p0_l : List Int) (q0_v : Int) (q1_v_c0_Size : Int) (q1_v_c0_Rows : List Int) (q2_Size : Int) (q2_Rows : List Int) (slf : (List Int) → Int → Int → (List Int) → Int → (List Int) → Option ((Option (List Int)))) (x148 : Int) (p238 : Bool) : Option ((Int) ⊕ (Unit ⊕ ((Option (List Int))))) :=
  (if p238 = true then ((slf (p0_l.take ((p0_l.length : Int).toNat) ++ ([x148] : List (Int))) q0_v q1_v_c0_Size q1_v_c0_Rows q2_Size q2_Rows).bind fun r243 => (match r243 with | none => S_impl_firstList_c1__FindTwoEdgesc1__always__firstListc1_j3 F x148 | some c245 => ((neO c245.length).bind fun _ => some (Sum.inr (Sum.inr (some c245)))))) else S_impl_firstList_c1__FindTwoEdgesc1__always__firstListc1_j3 F x148)

def S_impl_firstList_c1__FindTwoEdgesc1__always__firstListc1_l2 (F : Nat) (p0_l : List Int) (q0_v : Int) (q1_v_c0_Size : Int) (q1_v_c0_Rows : List Int) (q2_Size : Int) (q2_Rows : List Int) (slf : (List Int) → Int → Int → (List Int) → Int → (List Int) → Option ((Option (List Int)))) (x148 : Int) : Option ((Int) ⊕ (Unit ⊕ ((Option (List Int))))) :=
  (if (decide (x148 < q2_Size)) = true then ((slO p0_l.length (p0_l.length : Int)).bind fun _ => ((catO (p0_l.take ((p0_l.length : Int).toNat)).length ([x148] : List (Int)).length).bind fun _ => ((S_slices_Contains_int F p0_l x148).bind fun r249 => (if (!r249) = true then ((S_impl_always F (p0_l.take ((p0_l.length : Int).toNat) ++ ([x148] : List (Int)))).bind fun r250 => S_impl_firstList_c1__FindTwoEdgesc1__always__firstListc1_j4 F p0_l q0_v q1_v_c0_Size q1_v_c0_Rows q2_Size q2_Rows slf x148 r250) else S_impl_firstList_c1__FindTwoEdgesc1__always__firstListc1_j4 F p0_l q0_v q1_v_c0_Size q1_v_c0_Rows q2_Size q2_Rows slf x148 false)))) else some (Sum.inr (Sum.inl ())))

def S_impl_firstList_c1__FindTwoEdgesc1__always__firstListc1_b (F : Nat) (slf : (List Int) → Int → Int → (List Int) → Int → (List Int) → Option ((Option (List Int)))) (p0_l : List Int) (q0_v : Int) (q1_v_c0_Size : Int) (q1_v_c0_Rows : List Int) (q2_Size : Int) (q2_Rows : List Int) : Option ((Option (List Int))) :=
  (if ((p0_l.length : Int) == q0_v) = true then ((S_impl_FindTwoEdges_c1 F p0_l q1_v_c0_Size q1_v_c0_Rows).bind fun r34 => (if r34 = true then ((S_slices_Clone_int F p0_l).bind fun r38 => some (some r38)) else some none)) else (loopN (σ := Int) (β := (Unit ⊕ ((Option (List Int))))) (fun s => S_impl_firstList_c1__FindTwoEdgesc1__always__firstListc1_l2 F p0_l q0_v q1_v_c0_Size q1_v_c0_Rows q2_Size q2_Rows slf s) F 0).bind (fun b => (match b with | .inl o => S_impl_firstList_c1__FindTwoEdgesc1__always__firstListc1_j1 F | .inr o => some o)))

def S_impl_firstList_c1__FindTwoEdgesc1__always__firstListc1_d (F : Nat) : Nat → (List Int) → Int → Int → (List Int) → Int → (List Int) → Option ((Option (List Int)))
  | 0, _, _, _, _, _, _ => none
  | D + 1, p0_l, q0_v, q1_v_c0_Size, q1_v_c0_Rows, q2_Size, q2_Rows => S_impl_firstList_c1__FindTwoEdgesc1__always__firstListc1_b F (S_impl_firstList_c1__FindTwoEdgesc1__always__firstListc1_d F D) p0_l q0_v q1_v_c0_Size q1_v_c0_Rows q2_Size q2_Rows

def S_impl_firstList_c1__FindTwoEdgesc1__always__firstListc1 (F : Nat) (p0_l : List Int) (q0_v : Int) (q1_v_c0_Size : Int) (q1_v_c0_Rows : List Int) (q2_Size : Int) (q2_Rows : List Int) : Option ((Option (List Int))) :=
  S_impl_firstList_c1__FindTwoEdgesc1__always__firstListc1_d F F p0_l q0_v q1_v_c0_Size q1_v_c0_Rows q2_Size q2_Rows

def S_impl_firstList__always__FindTwoEdgesc1 (F : Nat) (p0_g_Size : Int) (p0_g_Rows : List Int) (p1_n : Int) (p3_holds_c0_Size : Int) (p3_holds_c0_Rows : List Int) : Option ((List (Int)) × Bool) :=
  ((S_impl_IsGraph F p0_g_Size p0_g_Rows).bind fun r21 => (if (!r21) = true then some (([] : List (Int)), false) else ((S_impl_firstList_c1__FindTwoEdgesc1__always__firstListc1 F ([] : List (Int)) p1_n p3_holds_c0_Size p3_holds_c0_Rows p0_g_Size p0_g_Rows).bind fun r27 => (match r27 with | none => some (([] : List (Int)), false) | some c29 => ((neO c29.length).bind fun _ => some (c29, true))))))

def S_impl_FindTwoEdges (F : Nat) (p0_g_Size : Int) (p0_g_Rows : List Int) : Option ((List (Int)) × Bool) :=
  ((S_impl_firstList__always__FindTwoEdgesc1 F p0_g_Size p0_g_Rows 4 p0_g_Size p0_g_Rows).bind fun r7 => some (r7.1, r7.2))

def S_spec_IsInducedPath_j2 (F : Nat) : Option (Bool) :=
  some true

def S_spec_IsInducedPath_j4 (F : Nat) (x195 : Int) : Option ((Int) ⊕ (Unit ⊕ Bool)) :=
  some (Sum.inl (IntKind.i64.wrap (x195 + 1)))

def S_spec_IsInducedPath_l5 (F : Nat) (p0_g_Size : Int) (p0_g_Rows : List Int) (p1_l : List Int) (x195 : Int) (x331 : Int) : Option ((Int) ⊕ (Unit ⊕ Bool)) :=
  (if (decide (x331 < x195)) = true then ((idxL p1_l x195).bind fun x368 => ((idxL p1_l x331).bind fun x369 => ((S_spec_l2Edge F p0_g_Size p0_g_Rows x368 x369).bind fun r370 => (if (r370 != (x331 == (IntKind.i64.wrap (x195 - 1)))) = true then some (Sum.inr (Sum.inr false)) else some (Sum.inl (IntKind.i64.wrap (x331 + 1))))))) else some (Sum.inr (Sum.inl ())))

def S_spec_IsInducedPath_l3 (F : Nat) (p0_g_Size : Int) (p0_g_Rows : List Int) (p1_l : List Int) (x195 : Int) : Option ((Int) ⊕ (Unit ⊕ Bool)) :=
  (if (decide (x195 < (p1_l.length : Int))) = true then (loopN (σ := Int) (β := (Unit ⊕ Bool)) (fun s => S_spec_IsInducedPath_l5 F p0_g_Size p0_g_Rows p1_l x195 s) F 0).bind (fun b => (match b with | .inl o => S_spec_IsInducedPath_j4 F x195 | .inr o => some (Sum.inr (Sum.inr o)))) else some (Sum.inr (Sum.inl ())))

def S_spec_IsInducedPath_j1 (F : Nat) (p0_g_Size : Int) (p0_g_Rows : List Int) (p1_l : List Int) (p12 : Bool) : Option (Bool) :=
  (if p12 = true then some false else (loopN (σ := Int) (β := (Unit ⊕ Bool)) (fun s => S_spec_IsInducedPath_l3 F p0_g_Size p0_g_Rows p1_l s) F 0).bind (fun b => (match b with | .inl o => S_spec_IsInducedPath_j2 F | .inr o => some o)))

def S_spec_IsInducedPath (F : Nat) (p0_g_Size : Int) (p0_g_Rows : List Int) (p1_l : List Int) : Option (Bool) :=
  ((S_spec_l4Distinct F p0_g_Size p0_g_Rows p1_l).bind fun r372 => (if (!r372) = true then S_spec_IsInducedPath_j1 F p0_g_Size p0_g_Rows p1_l true else S_spec_IsInducedPath_j1 F p0_g_Size p0_g_Rows p1_l ((p1_l.length : Int) == 0)))

def S_spec_IsHole_j2 (F : Nat) : Option (Bool) :=
  some true

def S_spec_IsHole_j4 (F : Nat) (x211 : Int) : Option ((Int) ⊕ (Unit ⊕ Bool)) :=
  some (Sum.inl (IntKind.i64.wrap (x211 + 1)))

def S_spec_IsHole_j6 (F : Nat) (x359 : Int) (p399 : Bool) : Option ((Int) ⊕ (Unit ⊕ Bool)) :=
  (if p399 = true then some (Sum.inr (Sum.inr false)) else some (Sum.inl (IntKind.i64.wrap (x359 + 1))))

def S_spec_IsHole_l5 (F : Nat) (p0_g_Size : Int) (p0_g_Rows : List Int) (p1_l : List Int) (x211 : Int) (x359 : Int) : Option ((Int) ⊕ (Unit ⊕ Bool)) :=
  (if (decide (x359 < x211)) = true then ((idxL p1_l x211).bind fun x401 => ((idxL p1_l x359).bind fun x402 => ((S_spec_l2Edge F p0_g_Size p0_g_Rows x401 x402).bind fun r403 => (if (x359 == (IntKind.i64.wrap (x211 - 1))) = true then S_spec_IsHole_j6 F x359 (r403 != true) else (if (x359 == 0) = true then S_spec_IsHole_j6 F x359 (r403 != (x211 == (IntKind.i64.wrap ((p1_l.length : Int) - 1)))) else S_spec_IsHole_j6 F x359 (r403 != false)))))) else some (Sum.inr (Sum.inl ())))

def S_spec_IsHole_l3 (F : Nat) (p0_g_Size : Int) (p0_g_Rows : List Int) (p1_l : List Int) (x211 : Int) : Option ((Int) ⊕ (Unit ⊕ Bool)) :=
  (if (decide (x211 < (p1_l.length : Int))) = true then (loopN (σ := Int) (β := (Unit ⊕ Bool)) (fun s => S_spec_IsHole_l5 F p0_g_Size p0_g_Rows p1_l x211 s) F 0).bind (fun b => (match b with | .inl o => S_spec_IsHole_j4 F x211 | .inr o => some (Sum.inr (Sum.inr o)))) else some (Sum.inr (Sum.inl ())))

def S_spec_IsHole_j1 (F : Nat) (p0_g_Size : Int) (p0_g_Rows : List Int) (p1_l : List Int) (p12 : Bool) : Option (Bool) :=
  (if p12 = true then some false else (loopN (σ := Int) (β := (Unit ⊕ Bool)) (fun s => S_spec_IsHole_l3 F p0_g_Size p0_g_Rows p1_l s) F 0).bind (fun b => (match b with | .inl o => S_spec_IsHole_j2 F | .inr o => some o)))

def S_spec_IsHole (F : Nat) (p0_g_Size : Int) (p0_g_Rows : List Int) (p1_l : List Int) : Option (Bool) :=
  ((S_spec_l4Distinct F p0_g_Size p0_g_Rows p1_l).bind fun r404 => (if (!r404) = true then S_spec_IsHole_j1 F p0_g_Size p0_g_Rows p1_l true else S_spec_IsHole_j1 F p0_g_Size p0_g_Rows p1_l (decide ((p1_l.length : Int) < 4))))

def S_spec_l4Search_j1 (F : Nat) : Option ((List (Int)) × Bool) :=
  some (([] : List (Int)), false)

def S_spec_l4Search_j3 (F : Nat) (x130 : Int) : Option ((Int) ⊕ (Unit ⊕ ((List (Int)) × Bool))) :=
  some (Sum.inl (IntKind.i64.wrap (x130 + 1)))

def S_spec_l4Search_j4 (F : Nat) (p0_g_Size : Int) (p0_g_Rows : List Int) (p1_l : List Int) (p2_n : Int) (p3_closed : Bool) (slf : Int → (List Int) → (List Int) → Int → Bool → Option ((List (Int)) × Bool)) (x130 : Int) (p217 : Bool) : Option ((Int) ⊕ (Unit ⊕ ((List (Int)) × Bool))) :=
  (if p217 = true then ((slf p0_g_Size p0_g_Rows ((([] : List (Int)) ++ p1_l) ++ ([x130] : List (Int))) p2_n p3_closed).bind fun r221 => (if r221.2 = true then some (Sum.inr (Sum.inr (r221.1, true))) else S_spec_l4Search_j3 F x130)) else S_spec_l4Search_j3 F x130)

def S_spec_l4Search_l2 (F : Nat) (p0_g_Size : Int) (p0_g_Rows : List Int) (p1_l : List Int) (p2_n : Int) (p3_closed : Bool) (slf : Int → (List Int) → (List Int) → Int → Bool → Option ((List (Int)) × Bool)) (x130 : Int) : Option ((Int) ⊕ (Unit ⊕ ((List (Int)) × Bool))) :=
  (if (decide (x130 < p0_g_Size)) = true then ((catO ([] : List (Int)).length p1_l.length).bind fun _ => ((catO (([] : List (Int)) ++ p1_l).length ([x130] : List (Int)).length).bind fun _ => ((S_spec_IsInducedPath F p0_g_Size p0_g_Rows ((([] : List (Int)) ++ p1_l) ++ ([x130] : List (Int)))).bind fun r225 => (if r225 = true then S_spec_l4Search_j4 F p0_g_Size p0_g_Rows p1_l p2_n p3_closed slf x130 true else (if p3_closed = true then (if ((((([] : List (Int)) ++ p1_l) ++ ([x130] : List (Int))).length : Int) == p2_n) = true then ((S_spec_IsHole F p0_g_Size p0_g_Rows ((([] : List (Int)) ++ p1_l) ++ ([x130] : List (Int)))).bind fun r226 => S_spec_l4Search_j4 F p0_g_Size p0_g_Rows p1_l p2_n p3_closed slf x130 r226) else S_spec_l4Search_j4 F p0_g_Size p0_g_Rows p1_l p2_n p3_closed slf x130 false) else S_spec_l4Search_j4 F p0_g_Size p0_g_Rows p1_l p2_n p3_closed slf x130 false))))) else some (Sum.inr (Sum.inl ())))

def S_spec_l4Search_b (F : Nat) (slf : Int → (List Int) → (List Int) → Int → Bool → Option ((List (Int)) × Bool)) (p0_g_Size : Int) (p0_g_Rows : List Int) (p1_l : List Int) (p2_n : Int) (p3_closed : Bool) : Option ((List (Int)) × Bool) :=
  (if ((p1_l.length : Int) == p2_n) = true then (if p3_closed = true then ((S_spec_IsHole F p0_g_Size p0_g_Rows p1_l).bind fun r25 => some (p1_l, r25)) else some (p1_l, true)) else (loopN (σ := Int) (β := (Unit ⊕ ((List (Int)) × Bool))) (fun s => S_spec_l4Search_l2 F p0_g_Size p0_g_Rows p1_l p2_n p3_closed slf s) F 0).bind (fun b => (match b with | .inl o => S_spec_l4Search_j1 F | .inr o => some o)))

def S_spec_l4Search_d (F : Nat) : Nat → Int → (List Int) → (List Int) → Int → Bool → Option ((List (Int)) × Bool)
  | 0, _, _, _, _, _ => none
  | D + 1, p0_g_Size, p0_g_Rows, p1_l, p2_n, p3_closed => S_spec_l4Search_b F (S_spec_l4Search_d F D) p0_g_Size p0_g_Rows p1_l p2_n p3_closed

def S_spec_l4Search (F : Nat) (p0_g_Size : Int) (p0_g_Rows : List Int) (p1_l : List Int) (p2_n : Int) (p3_closed : Bool) : Option ((List (Int)) × Bool) :=
  S_spec_l4Search_d F F p0_g_Size p0_g_Rows p1_l p2_n p3_closed

def S_spec_FindInducedPath_j1 (F : Nat) (p0_g_Size : Int) (p0_g_Rows : List Int) (p1_n : Int) (p17 : Bool) : Option ((List (Int)) × Bool) :=
  (if p17 = true then some (([] : List (Int)), false) else ((S_spec_l4Search F p0_g_Size p0_g_Rows ([] : List (Int)) p1_n false).bind fun r26 => some (r26.1, r26.2)))

def S_spec_FindInducedPath (F : Nat) (p0_g_Size : Int) (p0_g_Rows : List Int) (p1_n : Int) : Option ((List (Int)) × Bool) :=
  ((S_spec_IsGraph F p0_g_Size p0_g_Rows).bind fun r29 => (if (!r29) = true then S_spec_FindInducedPath_j1 F p0_g_Size p0_g_Rows p1_n true else ((S_spec_l1In F p1_n 1 p0_g_Size).bind fun r30 => S_spec_FindInducedPath_j1 F p0_g_Size p0_g_Rows p1_n (!r30))))

def S_impl_IsInducedPath_c1 (F : Nat) (p0_i : Int) (p1_k : Int) : Option (Bool) :=
  some (p1_k == (IntKind.i64.wrap (p0_i + 1)))

def S_impl_areJoined__IsInducedPathc1_j1 (F : Nat) : Option (Bool) :=
  some true

def S_impl_areJoined__IsInducedPathc1_j3 (F : Nat) (x268 : Int) : Option ((Int) ⊕ (Unit ⊕ Bool)) :=
  some (Sum.inl (IntKind.i64.wrap (x268 + 1)))

def S_impl_areJoined__IsInducedPathc1_l4 (F : Nat) (p0_g_Rows : List Int) (p1_l : List Int) (x268 : Int) (x460 : Int) : Option ((Int) ⊕ (Unit ⊕ Bool)) :=
  (if (decide (x460 < x268)) = true then ((idxL p1_l x460).bind fun x513 => ((idxL p0_g_Rows x513).bind fun x514 => ((idxL p1_l x268).bind fun x515 => ((S_impl_has F x514 x515).bind fun r516 => ((S_impl_IsInducedPath_c1 F x460 x268).bind fun r517 => (if (r516 != r517) = true then some (Sum.inr (Sum.inr false)) else some (Sum.inl (IntKind.i64.wrap (x460 + 1))))))))) else some (Sum.inr (Sum.inl ())))

def S_impl_areJoined__IsInducedPathc1_l2 (F : Nat) (p0_g_Rows : List Int) (p1_l : List Int) (x268 : Int) : Option ((Int) ⊕ (Unit ⊕ Bool)) :=
  (if (decide (x268 < (p1_l.length : Int))) = true then (loopN (σ := Int) (β := (Unit ⊕ Bool)) (fun s => S_impl_areJoined__IsInducedPathc1_l4 F p0_g_Rows p1_l x268 s) F 0).bind (fun b => (match b with | .inl o => S_impl_areJoined__IsInducedPathc1_j3 F x268 | .inr o => some (Sum.inr (Sum.inr o)))) else some (Sum.inr (Sum.inl ())))

def S_impl_areJoined__IsInducedPathc1 (F : Nat) (p0_g_Size : Int) (p0_g_Rows : List Int) (p1_l : List Int) : Option (Bool) :=
  ((S_impl_areVertices F p0_g_Size p0_g_Rows p1_l).bind fun r11 => (if (!r11) = true then some false else (loopN (σ := Int) (β := (Unit ⊕ Bool)) (fun s => S_impl_areJoined__IsInducedPathc1_l2 F p0_g_Rows p1_l s) F 0).bind (fun b => (match b with | .inl o => S_impl_areJoined__IsInducedPathc1_j1 F | .inr o => some o))))

def S_impl_IsInducedPath_j1 (F : Nat) (p6 : Bool) : Option (Bool) :=
  some p6

def S_impl_IsInducedPath (F : Nat) (p0_g_Size : Int) (p0_g_Rows : List Int) (p1_l : List Int) : Option (Bool) :=
  (if (decide ((0 : Int) < (p1_l.length : Int))) = true then ((S_impl_areJoined__IsInducedPathc1 F p0_g_Size p0_g_Rows p1_l).bind fun r7 => S_impl_IsInducedPath_j1 F r7) else S_impl_IsInducedPath_j1 F false)

def S_impl_FindInducedPath_c1 (F : Nat) (p0_l : List Int) (q0_Size : Int) (q0_Rows : List Int) : Option (Bool) :=
  ((S_impl_IsInducedPath F q0_Size q0_Rows p0_l).bind fun r4 => some r4)

def S_impl_firstList_c1__always__FindInducedPathc1__firstListc1_j1 (F : Nat) : Option ((Option (List Int))) :=
  some none

def S_impl_firstList_c1__always__FindInducedPathc1__firstListc1_j3 (F : Nat) (x148 : Int) : Option ((Int) ⊕ (Unit ⊕ ((Option (List Int))))) :=
  some (Sum.inl (IntKind.i64.wrap (x148 + 1)))

def S_impl_firstList_c1__always__FindInducedPathc1__firstListc1_j4 (F : Nat) (p0_l : List Int) (q0_v : Int) (q2_Size : Int) (q2_Rows : List Int) (q3_v_c0_Size : Int) (q3_v_c0_Rows : List Int) (slf : (List Int) → Int → Int → (List Int) → Int → (List Int) → Option ((Option (List Int)))) (x148 : Int) (p238 : Bool) : Option ((Int) ⊕ (Unit ⊕ ((Option (List Int))))) :=
  (if p238 = true then ((slf (p0_l.take ((p0_l.length : Int).toNat) ++ ([x148] : List (Int))) q0_v q2_Size q2_Rows q3_v_c0_Size q3_v_c0_Rows).bind fun r243 => (match r243 with | none => S_impl_firstList_c1__always__FindInducedPathc1__firstListc1_j3 F x148 | some c245 => ((neO c245.length).bind fun _ => some (Sum.inr (Sum.inr (some c245)))))) else S_impl_firstList_c1__always__FindInducedPathc1__firstListc1_j3 F x148)

def S_impl_firstList_c1__always__FindInducedPathc1__firstListc1_l2 (F : Nat) (p0_l : List Int) (q0_v : Int) (q2_Size : Int) (q2_Rows : List Int) (q3_v_c0_Size : Int) (q3_v_c0_Rows : List Int) (slf : (List Int) → Int → Int → (List Int) → Int → (List Int) → Option ((Option (List Int)))) (x148 : Int) : Option ((Int) ⊕ (Unit ⊕ ((Option (List Int))))) :=
  (if (decide (x148 < q2_Size)) = true then ((slO p0_l.length (p0_l.length : Int)).bind fun _ => ((catO (p0_l.take ((p0_l.length : Int).toNat)).length ([x148] : List (Int)).length).bind fun _ => ((S_slices_Contains_int F p0_l x148).bind fun r249 => (if (!r249) = true then ((S_impl_FindInducedPath_c1 F (p0_l.take ((p0_l.length : Int).toNat) ++ ([x148] : List (Int))) q3_v_c0_Size q3_v_c0_Rows).bind fun r250 => S_impl_firstList_c1__always__FindInducedPathc1__firstListc1_j4 F p0_l q0_v q2_Size q2_Rows q3_v_c0_Size q3_v_c0_Rows slf x148 r250) else S_impl_firstList_c1__always__FindInducedPathc1__firstListc1_j4 F p0_l q0_v q2_Size q2_Rows q3_v_c0_Size q3_v_c0_Rows slf x148 false)))) else some (Sum.inr (Sum.inl ())))

def S_impl_firstList_c1__always__FindInducedPathc1__firstListc1_b (F : Nat) (slf : (List Int) → Int → Int → (List Int) → Int → (List Int) → Option ((Option (List Int)))) (p0_l : List Int) (q0_v : Int) (q2_Size : Int) (q2_Rows : List Int) (q3_v_c0_Size : Int) (q3_v_c0_Rows : List Int) : Option ((Option (List Int))) :=
  (if ((p0_l.length : Int) == q0_v) = true then ((S_impl_always F p0_l).bind fun r34 => (if r34 = true then ((S_slices_Clone_int F p0_l).bind fun r38 => some (some r38)) else some none)) else (loopN (σ := Int) (β := (Unit ⊕ ((Option (List Int))))) (fun s => S_impl_firstList_c1__always__FindInducedPathc1__firstListc1_l2 F p0_l q0_v q2_Size q2_Rows q3_v_c0_Size q3_v_c0_Rows slf s) F 0).bind (fun b => (match b with | .inl o => S_impl_firstList_c1__always__FindInducedPathc1__firstListc1_j1 F | .inr o => some o)))

def S_impl_firstList_c1__always__FindInducedPathc1__firstListc1_d (F : Nat) : Nat → (List Int) → Int → Int → (List Int) → Int → (List Int) → Option ((Option (List Int)))
  | 0, _, _, _, _, _, _ => none
  | D + 1, p0_l, q0_v, q2_Size, q2_Rows, q3_v_c0_Size, q3_v_c0_Rows => S_impl_firstList_c1__always__FindInducedPathc1__firstListc1_b F (S_impl_firstList_c1__always__FindInducedPathc1__firstListc1_d F D) p0_l q0_v q2_Size q2_Rows q3_v_c0_Size q3_v_c0_Rows

def S_impl_firstList_c1__always__FindInducedPathc1__firstListc1 (F : Nat) (p0_l : List Int) (q0_v : Int) (q2_Size : Int) (q2_Rows : List Int) (q3_v_c0_Size : Int) (q3_v_c0_Rows : List Int) : Option ((Option (List Int))) :=
  S_impl_firstList_c1__always__FindInducedPathc1__firstListc1_d F F p0_l q0_v q2_Size q2_Rows q3_v_c0_Size q3_v_c0_Rows

def S_impl_firstList__FindInducedPathc1__always (F : Nat) (p0_g_Size : Int) (p0_g_Rows : List Int) (p1_n : Int) (p2_may_c0_Size : Int) (p2_may_c0_Rows : List Int) : Option ((List (Int)) × Bool) :=
  ((S_impl_IsGraph F p0_g_Size p0_g_Rows).bind fun r21 => (if (!r21) = true then some (([] : List (Int)), false) else ((S_impl_firstList_c1__always__FindInducedPathc1__firstListc1 F ([] : List (Int)) p1_n p0_g_Size p0_g_Rows p2_may_c0_Size p2_may_c0_Rows).bind fun r27 => (match r27 with | none => some (([] : List (Int)), false) | some c29 => ((neO c29.length).bind fun _ => some (c29, true))))))

def S_impl_FindInducedPath (F : Nat) (p0_g_Size : Int) (p0_g_Rows : List Int) (p1_n : Int) : Option ((List (Int)) × Bool) :=
  ((S_impl_within F p1_n 1 p0_g_Size).bind fun r11 => (if (!r11) = true then some (([] : List (Int)), false) else ((S_impl_firstList__FindInducedPathc1__always F p0_g_Size p0_g_Rows p1_n p0_g_Size p0_g_Rows).bind fun r16 => some (r16.1, r16.2))))

def S_spec_FindHole_j1 (F : Nat) : Option ((List (Int)) × Bool) :=
  some (([] : List (Int)), false)

def S_spec_FindHole_j3 (F : Nat) (p0_g_Size : Int) (p0_g_Rows : List Int) (x67 : Int) (p103 : Bool) : Option ((Int) ⊕ (Unit ⊕ ((List (Int)) × Bool))) :=
  (if p103 = true then ((S_spec_l4Search F p0_g_Size p0_g_Rows ([] : List (Int)) x67 true).bind fun r119 => (if r119.2 = true then some (Sum.inr (Sum.inr (r119.1, true))) else some (Sum.inl (IntKind.i64.wrap (x67 + 1))))) else some (Sum.inr (Sum.inl ())))

def S_spec_FindHole_l2 (F : Nat) (p0_g_Size : Int) (p0_g_Rows : List Int) (x67 : Int) : Option ((Int) ⊕ (Unit ⊕ ((List (Int)) × Bool))) :=
  (if (decide (x67 ≤ p0_g_Size)) = true then ((S_spec_IsGraph F p0_g_Size p0_g_Rows).bind fun r123 => S_spec_FindHole_j3 F p0_g_Size p0_g_Rows x67 r123) else S_spec_FindHole_j3 F p0_g_Size p0_g_Rows x67 false)

def S_spec_FindHole (F : Nat) (p0_g_Size : Int) (p0_g_Rows : List Int) : Option ((List (Int)) × Bool) :=
  (loopN (σ := Int) (β := (Unit ⊕ ((List (Int)) × Bool))) (fun s => S_spec_FindHole_l2 F p0_g_Size p0_g_Rows s) F 4).bind (fun b => (match b with | .inl o => S_spec_FindHole_j1 F | .inr o => some o))

def S_impl_FindHole_c1_j1 (F : Nat) (p4 : Bool) : Option (Bool) :=
  some p4

def S_impl_FindHole_c1 (F : Nat) (p0_l : List Int) (q0_v : Int) (q1_Size : Int) (q1_Rows : List Int) : Option (Bool) :=
  (if ((p0_l.length : Int) == q0_v) = true then S_impl_FindHole_c1_j1 F true else ((S_impl_IsInducedPath F q1_Size q1_Rows p0_l).bind fun r5 => S_impl_FindHole_c1_j1 F r5))

def S_impl_IsHole_c1_j1 (F : Nat) (p3 : Bool) : Option (Bool) :=
  some p3

def S_impl_IsHole_c1 (F : Nat) (p0_i : Int) (p1_k : Int) (q0_v : List Int) : Option (Bool) :=
  (if (p1_k == (IntKind.i64.wrap (p0_i + 1))) = true then S_impl_IsHole_c1_j1 F true else (if (p0_i == 0) = true then S_impl_IsHole_c1_j1 F (p1_k == (IntKind.i64.wrap ((q0_v.length : Int) - 1))) else S_impl_IsHole_c1_j1 F false))

def S_impl_areJoined__IsHolec1_j1 (F : Nat) : Option (Bool) :=
  some true

def S_impl_areJoined__IsHolec1_j3 (F : Nat) (x268 : Int) : Option ((Int) ⊕ (Unit ⊕ Bool)) :=
  some (Sum.inl (IntKind.i64.wrap (x268 + 1)))

def S_impl_areJoined__IsHolec1_l4 (F : Nat) (p0_g_Rows : List Int) (p1_l : List Int) (p2_joined_c0_v : List Int) (x268 : Int) (x460 : Int) : Option ((Int) ⊕ (Unit ⊕ Bool)) :=
  (if (decide (x460 < x268)) = true then ((idxL p1_l x460).bind fun x513 => ((idxL p0_g_Rows x513).bind fun x514 => ((idxL p1_l x268).bind fun x515 => ((S_impl_has F x514 x515).bind fun r516 => ((S_impl_IsHole_c1 F x460 x268 p2_joined_c0_v).bind fun r517 => (if (r516 != r517) = true then some (Sum.inr (Sum.inr false)) else some (Sum.inl (IntKind.i64.wrap (x460 + 1))))))))) else some (Sum.inr (Sum.inl ())))

def S_impl_areJoined__IsHolec1_l2 (F : Nat) (p0_g_Rows : List Int) (p1_l : List Int) (p2_joined_c0_v : List Int) (x268 : Int) : Option ((Int) ⊕ (Unit ⊕ Bool)) :=
  (if (decide (x268 < (p1_l.length : Int))) = true then (loopN (σ := Int) (β := (Unit ⊕ Bool)) (fun s => S_impl_areJoined__IsHolec1_l4 F p0_g_Rows p1_l p2_joined_c0_v x268 s) F 0).bind (fun b => (match b with | .inl o => S_impl_areJoined__IsHolec1_j3 F x268 | .inr o => some (Sum.inr (Sum.inr o)))) else some (Sum.inr (Sum.inl ())))

def S_impl_areJoined__IsHolec1 (F : Nat) (p0_g_Size : Int) (p0_g_Rows : List Int) (p1_l : List Int) (p2_joined_c0_v : List Int) : Option (Bool) :=
  ((S_impl_areVertices F p0_g_Size p0_g_Rows p1_l).bind fun r11 => (if (!r11) = true then some false else (loopN (σ := Int) (β := (Unit ⊕ Bool)) (fun s => S_impl_areJoined__IsHolec1_l2 F p0_g_Rows p1_l p2_joined_c0_v s) F 0).bind (fun b => (match b with | .inl o => S_impl_areJoined__IsHolec1_j1 F | .inr o => some o))))

def S_impl_IsHole_j1 (F : Nat) (p8 : Bool) : Option (Bool) :=
  some p8

def S_impl_IsHole (F : Nat) (p0_g_Size : Int) (p0_g_Rows : List Int) (p1_l : List Int) : Option (Bool) :=
  (if (decide ((4 : Int) ≤ (p1_l.length : Int))) = true then ((S_impl_areJoined__IsHolec1 F p0_g_Size p0_g_Rows p1_l p1_l).bind fun r9 => S_impl_IsHole_j1 F r9) else S_impl_IsHole_j1 F false)

def S_impl_FindHole_c2 (F : Nat) (p0_l : List Int) (q0_Size : Int) (q0_Rows : List Int) : Option (Bool) :=
  ((S_impl_IsHole F q0_Size q0_Rows p0_l).bind fun r4 => some r4)

def S_impl_firstList_c1__FindHolec2__FindHolec1__firstListc1_j1 (F : Nat) : Option ((Option (List Int))) :=
  some none

def S_impl_firstList_c1__FindHolec2__FindHolec1__firstListc1_j3 (F : Nat) (x148 : Int) : Option ((Int) ⊕ (Unit ⊕ ((Option (List Int))))) :=
  some (Sum.inl (IntKind.i64.wrap (x148 + 1)))

def S_impl_firstList_c1__FindHolec2__FindHolec1__firstListc1_j4 (F : Nat) (p0_l : List Int) (q0_v : Int) (q1_v_c0_Size : Int) (q1_v_c0_Rows : List Int) (q2_Size : Int) (q2_Rows : List Int) (q3_v_c0_v : Int) (slf : (List Int) → Int → Int → (List Int) → Int → (List Int) → Int → Option ((Option (List Int)))) (x148 : Int) (p238 : Bool) : Option ((Int) ⊕ (Unit ⊕ ((Option (List Int))))) :=
  (if p238 = true then ((slf (p0_l.take ((p0_l.length : Int).toNat) ++ ([x148] : List (Int))) q0_v q1_v_c0_Size q1_v_c0_Rows q2_Size q2_Rows q3_v_c0_v).bind fun r243 => (match r243 with | none => S_impl_firstList_c1__FindHolec2__FindHolec1__firstListc1_j3 F x148 | some c245 => ((neO c245.length).bind fun _ => some (Sum.inr (Sum.inr (some c245)))))) else S_impl_firstList_c1__FindHolec2__FindHolec1__firstListc1_j3 F x148)

def S_impl_firstList_c1__FindHolec2__FindHolec1__firstListc1_l2 (F : Nat) (p0_l : List Int) (q0_v : Int) (q1_v_c0_Size : Int) (q1_v_c0_Rows : List Int) (q2_Size : Int) (q2_Rows : List Int) (q3_v_c0_v : Int) (slf : (List Int) → Int → Int → (List Int) → Int → (List Int) → Int → Option ((Option (List Int)))) (x148 : Int) : Option ((Int) ⊕ (Unit ⊕ ((Option (List Int))))) :=
  (if (decide (x148 < q2_Size)) = true then ((slO p0_l.length (p0_l.length : Int)).bind fun _ => ((catO (p0_l.take ((p0_l.length : Int).toNat)).length ([x148] : List (Int)).length).bind fun _ => ((S_slices_Contains_int F p0_l x148).bind fun r249 => (if (!r249) = true then ((S_impl_FindHole_c1 F (p0_l.take ((p0_l.length : Int).toNat) ++ ([x148] : List (Int))) q3_v_c0_v q1_v_c0_Size q1_v_c0_Rows).bind fun r250 => S_impl_firstList_c1__FindHolec2__FindHolec1__firstListc1_j4 F p0_l q0_v q1_v_c0_Size q1_v_c0_Rows q2_Size q2_Rows q3_v_c0_v slf x148 r250) else S_impl_firstList_c1__FindHolec2__FindHolec1__firstListc1_j4 F p0_l q0_v q1_v_c0_Size q1_v_c0_Rows q2_Size q2_Rows q3_v_c0_v slf x148 false)))) else some (Sum.inr (Sum.inl ())))

def S_impl_firstList_c1__FindHolec2__FindHolec1__firstListc1_b (F : Nat) (slf : (List Int) → Int → Int → (List Int) → Int → (List Int) → Int → Option ((Option (List Int)))) (p0_l : List Int) (q0_v : Int) (q1_v_c0_Size : Int) (q1_v_c0_Rows : List Int) (q2_Size : Int) (q2_Rows : List Int) (q3_v_c0_v : Int) : Option ((Option (List Int))) :=
  (if ((p0_l.length : Int) == q0_v) = true then ((S_impl_FindHole_c2 F p0_l q1_v_c0_Size q1_v_c0_Rows).bind fun r34 => (if r34 = true then ((S_slices_Clone_int F p0_l).bind fun r38 => some (some r38)) else some none)) else (loopN (σ := Int) (β := (Unit ⊕ ((Option (List Int))))) (fun s => S_impl_firstList_c1__FindHolec2__FindHolec1__firstListc1_l2 F p0_l q0_v q1_v_c0_Size q1_v_c0_Rows q2_Size q2_Rows q3_v_c0_v slf s) F 0).bind (fun b => (match b with | .inl o => S_impl_firstList_c1__FindHolec2__FindHolec1__firstListc1_j1 F | .inr o => some o)))

def S_impl_firstList_c1__FindHolec2__FindHolec1__firstListc1_d (F : Nat) : Nat → (List Int) → Int → Int → (List Int) → Int → (List Int) → Int → Option ((Option (List Int)))
  | 0, _, _, _, _, _, _, _ => none
  | D + 1, p0_l, q0_v, q1_v_c0_Size, q1_v_c0_Rows, q2_Size, q2_Rows, q3_v_c0_v => S_impl_firstList_c1__FindHolec2__FindHolec1__firstListc1_b F (S_impl_firstList_c1__FindHolec2__FindHolec1__firstListc1_d F D) p0_l q0_v q1_v_c0_Size q1_v_c0_Rows q2_Size q2_Rows q3_v_c0_v

def S_impl_firstList_c1__FindHolec2__FindHolec1__firstListc1 (F : Nat) (p0_l : List Int) (q0_v : Int) (q1_v_c0_Size : Int) (q1_v_c0_Rows : List Int) (q2_Size : Int) (q2_Rows : List Int) (q3_v_c0_v : Int) : Option ((Option (List Int))) :=
  S_impl_firstList_c1__FindHolec2__FindHolec1__firstListc1_d F F p0_l q0_v q1_v_c0_Size q1_v_c0_Rows q2_Size q2_Rows q3_v_c0_v

def S_impl_firstList__FindHolec1__FindHolec2 (F : Nat) (p0_g_Size : Int) (p0_g_Rows : List Int) (p1_n : Int) (p2_may_c0_v : Int) (p2_may_c1_Size : Int) (p2_may_c1_Rows : List Int) : Option ((List (Int)) × Bool) :=
  ((S_impl_IsGraph F p0_g_Size p0_g_Rows).bind fun r21 => (if (!r21) = true then some (([] : List (Int)), false) else ((S_impl_firstList_c1__FindHolec2__FindHolec1__firstListc1 F ([] : List (Int)) p1_n p2_may_c1_Size p2_may_c1_Rows p0_g_Size p0_g_Rows p2_may_c0_v).bind fun r27 => (match r27 with | none => some (([] : List (Int)), false) | some c29 => ((neO c29.length).bind fun _ => some (c29, true))))))

def S_impl_FindHole_j1 (F : Nat) : Option ((List (Int)) × Bool) :=
  some (([] : List (Int)), false)

def S_impl_FindHole_l2 (F : Nat) (p0_g_Size : Int) (p0_g_Rows : List Int) (x115 : Int) : Option ((Int) ⊕ (Unit ⊕ ((List (Int)) × Bool))) :=
  (if (decide (x115 ≤ (if 7 < p0_g_Size then 7 else p0_g_Size))) = true then ((S_impl_firstList__FindHolec1__FindHolec2 F p0_g_Size p0_g_Rows x115 x115 p0_g_Size p0_g_Rows).bind fun r157 => (if r157.2 = true then some (Sum.inr (Sum.inr (r157.1, true))) else some (Sum.inl (IntKind.i64.wrap (x115 + 1))))) else some (Sum.inr (Sum.inl ())))

def S_impl_FindHole (F : Nat) (p0_g_Size : Int) (p0_g_Rows : List Int) : Option ((List (Int)) × Bool) :=
  (loopN (σ := Int) (β := (Unit ⊕ ((List (Int)) × Bool))) (fun s => S_impl_FindHole_l2 F p0_g_Size p0_g_Rows s) F 4).bind (fun b => (match b with | .inl o => S_impl_FindHole_j1 F | .inr o => some o))

def S_laws_big (F : Nat) (p0_code : List Int) : Option (Bool) :=
  some (decide ((1048576 : Int) < (p0_code.length : Int)))

def S_spec_l2Copy (F : Nat) (p0_g_Size : Int) (p0_g_Rows : List Int) : Option (Int × (List (Int))) :=
  ((catO ([] : List (Int)).length p0_g_Rows.length).bind fun _ => some (p0_g_Size, (([] : List (Int)) ++ p0_g_Rows)))

def S_spec_l2Pair_j1 (F : Nat) (p6 : Bool) : Option (Bool) :=
  some p6

def S_spec_l2Pair (F : Nat) (p0_g_Size : Int) (p0_g_Rows : List Int) (p1_v : Int) (p2_w : Int) : Option (Bool) :=
  ((S_spec_IsGraph F p0_g_Size p0_g_Rows).bind fun r7 => (if r7 = true then (if (decide ((0 : Int) ≤ p1_v)) = true then (if (decide ((0 : Int) ≤ p2_w)) = true then (if (decide (p1_v < p0_g_Size)) = true then (if (decide (p2_w < p0_g_Size)) = true then S_spec_l2Pair_j1 F (p1_v != p2_w) else S_spec_l2Pair_j1 F false) else S_spec_l2Pair_j1 F false) else S_spec_l2Pair_j1 F false) else S_spec_l2Pair_j1 F false) else S_spec_l2Pair_j1 F false))

def S_spec_AddEdge_j1 (F : Nat) (p1_v : Int) (p2_w : Int) (r10 : Int × (List (Int))) (p24 : Bool) : Option (Int × (List (Int)) × Bool) :=
  (if p24 = true then some (r10.1, r10.2, false) else ((idxL r10.2 p1_v).bind fun x29 => ((nnO p2_w).bind fun _ => ((idxL r10.2 p1_v).bind fun x30 => ((idxL (r10.2.set (p1_v.toNat) (IntKind.i64.wrap (x29 + (shL 1 p2_w)))) p2_w).bind fun x34 => ((nnO p1_v).bind fun _ => ((idxL (r10.2.set (p1_v.toNat) (IntKind.i64.wrap (x29 + (shL 1 p2_w)))) p2_w).bind fun x35 => some (r10.1, ((r10.2.set (p1_v.toNat) (IntKind.i64.wrap (x29 + (shL 1 p2_w)))).set (p2_w.toNat) (IntKind.i64.wrap (x34 + (shL 1 p1_v)))), true))))))))

def S_spec_AddEdge (F : Nat) (p0_g_Size : Int) (p0_g_Rows : List Int) (p1_v : Int) (p2_w : Int) : Option (Int × (List (Int)) × Bool) :=
  ((S_spec_l2Copy F p0_g_Size p0_g_Rows).bind fun r10 => ((S_spec_l2Pair F p0_g_Size p0_g_Rows p1_v p2_w).bind fun r37 => (if (!r37) = true then S_spec_AddEdge_j1 F p1_v p2_w r10 true else ((S_spec_l2Edge F p0_g_Size p0_g_Rows p1_v p2_w).bind fun r38 => S_spec_AddEdge_j1 F p1_v p2_w r10 r38))))

def S_spec_NamedGraph_j2 (F : Nat) (x1000 : Int) (l1002 : List Int) (p1008 : Bool) : Option (Int × (List (Int)) × Bool) :=
  (if p1008 = true then some (0, ([] : List (Int)), false) else some (x1000, l1002, true))

def S_spec_NamedGraph_j1 (F : Nat) (p0_name : List UInt8) (p1_n : Int) (x1000 : Int) (l1002 : List Int) : Option (Int × (List (Int)) × Bool) :=
  (if (p1_n == 1) = true then (if (p0_name != ([112, 97, 116, 104] : List UInt8)) = true then (if (p0_name != ([99, 121, 99, 108, 101] : List UInt8)) = true then (if (p0_name != ([99, 111, 109, 112, 108, 101, 116, 101] : List UInt8)) = true then (if (p0_name != ([115, 116, 97, 114] : List UInt8)) = true then (if (p0_name != ([119, 104, 101, 101, 108] : List UInt8)) = true then S_spec_NamedGraph_j2 F x1000 l1002 (p0_name != ([101, 109, 112, 116, 121] : List UInt8)) else S_spec_NamedGraph_j2 F x1000 l1002 false) else S_spec_NamedGraph_j2 F x1000 l1002 false) else S_spec_NamedGraph_j2 F x1000 l1002 false) else S_spec_NamedGraph_j2 F x1000 l1002 false) else S_spec_NamedGraph_j2 F x1000 l1002 false) else S_spec_NamedGraph_j2 F x1000 l1002 false)

def S_spec_NamedGraph_j4 (F : Nat) (x1341 : Int) (x1830 : Int) (l1832 : List Int) : Option ((Int × (List Int) × Int) ⊕ ((Int × (List Int)) ⊕ (Int × (List (Int)) × Bool))) :=
  some (Sum.inl (x1830, l1832, (IntKind.i64.wrap (x1341 + 1))))

def S_spec_NamedGraph_j6 (F : Nat) (x1889 : Int) (x1967 : Int) (l1969 : List Int) : Option ((Int × (List Int) × Int) ⊕ ((Int × (List Int)) ⊕ (Int × (List (Int)) × Bool))) :=
  some (Sum.inl (x1967, l1969, (IntKind.i64.wrap (x1889 + 1))))

def S_spec_NamedGraph_j7 (F : Nat) (x1341 : Int) (x1886 : Int) (l1888 : List Int) (x1889 : Int) (p1980 : Bool) : Option ((Int × (List Int) × Int) ⊕ ((Int × (List Int)) ⊕ (Int × (List (Int)) × Bool))) :=
  (if p1980 = true then ((S_spec_AddEdge F x1886 l1888 x1341 x1889).bind fun r1982 => S_spec_NamedGraph_j6 F x1889 r1982.1 r1982.2.1) else S_spec_NamedGraph_j6 F x1889 x1886 l1888)

def S_spec_NamedGraph_l5 (F : Nat) (p0_name : List UInt8) (p1_n : Int) (x1341 : Int) (x1886 : Int) (l1888 : List Int) (x1889 : Int) : Option ((Int × (List Int) × Int) ⊕ ((Int × (List Int)) ⊕ (Int × (List (Int)) × Bool))) :=
  (if (decide (x1889 < p1_n)) = true then (if (p0_name == ([112, 97, 116, 104] : List UInt8)) = true then S_spec_NamedGraph_j7 F x1341 x1886 l1888 x1889 (x1889 == (IntKind.i64.wrap (x1341 + 1))) else (if (p0_name == ([99, 121, 99, 108, 101] : List UInt8)) = true then (if (x1889 == (IntKind.i64.wrap (x1341 + 1))) = true then S_spec_NamedGraph_j7 F x1341 x1886 l1888 x1889 true else (if (x1341 == 0) = true then S_spec_NamedGraph_j7 F x1341 x1886 l1888 x1889 (x1889 == (IntKind.i64.wrap (p1_n - 1))) else S_spec_NamedGraph_j7 F x1341 x1886 l1888 x1889 false)) else (if (p0_name == ([99, 111, 109, 112, 108, 101, 116, 101] : List UInt8)) = true then S_spec_NamedGraph_j7 F x1341 x1886 l1888 x1889 true else (if (p0_name == ([115, 116, 97, 114] : List UInt8)) = true then S_spec_NamedGraph_j7 F x1341 x1886 l1888 x1889 (x1341 == 0) else (if (p0_name == ([119, 104, 101, 101, 108] : List UInt8)) = true then (if (x1341 == 0) = true then S_spec_NamedGraph_j7 F x1341 x1886 l1888 x1889 true else (if (x1889 == (IntKind.i64.wrap (x1341 + 1))) = true then S_spec_NamedGraph_j7 F x1341 x1886 l1888 x1889 true else (if (x1341 == 1) = true then S_spec_NamedGraph_j7 F x1341 x1886 l1888 x1889 (x1889 == (IntKind.i64.wrap (p1_n - 1))) else S_spec_NamedGraph_j7 F x1341 x1886 l1888 x1889 false))) else (if (p0_name == ([101, 109, 112, 116, 121] : List UInt8)) = true then S_spec_NamedGraph_j7 F x1341 x1886 l1888 x1889 false else some (Sum.inr (Sum.inr (0, ([] : List (Int)), false))))))))) else some (Sum.inr (Sum.inl (x1886, l1888))))

def S_spec_NamedGraph_l3 (F : Nat) (p0_name : List UInt8) (p1_n : Int) (x1338 : Int) (l1340 : List Int) (x1341 : Int) : Option ((Int × (List Int) × Int) ⊕ ((Int × (List Int)) ⊕ (Int × (List (Int)) × Bool))) :=
  (if (decide (x1341 < p1_n)) = true then (loopN (σ := (Int × (List Int) × Int)) (β := ((Int × (List Int)) ⊕ (Int × (List (Int)) × Bool))) (fun s => S_spec_NamedGraph_l5 F p0_name p1_n x1341 s.1 s.2.1 s.2.2) F (x1338, l1340, (IntKind.i64.wrap (x1341 + 1)))).bind (fun b => (match b with | .inl o => S_spec_NamedGraph_j4 F x1341 o.1 o.2 | .inr o => some (Sum.inr (Sum.inr o)))) else some (Sum.inr (Sum.inl (x1338, l1340))))

def S_spec_NamedGraph (F : Nat) (p0_name : List UInt8) (p1_n : Int) : Option (Int × (List (Int)) × Bool) :=
  ((S_spec_l1In F p1_n 1 7).bind fun r11 => (if (!r11) = true then some (0, ([] : List (Int)), false) else ((mkO p1_n).bind fun _ => (loopN (σ := (Int × (List Int) × Int)) (β := ((Int × (List Int)) ⊕ (Int × (List (Int)) × Bool))) (fun s => S_spec_NamedGraph_l3 F p0_name p1_n s.1 s.2.1 s.2.2) F (p1_n, (List.replicate p1_n.toNat (0 : Int)), 0)).bind (fun b => (match b with | .inl o => S_spec_NamedGraph_j1 F p0_name p1_n o.1 o.2 | .inr o => some o)))))

def S_spec_l1Byte_j1 (F : Nat) (p0_c_h : Int) (x9 : Int) (x10 : Int) : Option (Int × Int × Int) :=
  some (x9, x10, (IntKind.i64.wrap ((IntKind.i64.wrap (p0_c_h * 6364136223846793005)) + 1442695040888963407)))

def S_spec_l1Byte (F : Nat) (p0_c_b : List Int) (p0_c_i : Int) (p0_c_h : Int) : Option (Int × Int × Int) :=
  (if (decide (p0_c_i < (p0_c_b.length : Int))) = true then ((idxL p0_c_b p0_c_i).bind fun x15 => S_spec_l1Byte_j1 F p0_c_h (bAnd (IntKind.i64.wrap ((bAnd (bXor (shR (IntKind.i64.wrap ((IntKind.i64.wrap (p0_c_h * 6364136223846793005)) + 1442695040888963407)) 33) (shR (IntKind.i64.wrap ((IntKind.i64.wrap (p0_c_h * 6364136223846793005)) + 1442695040888963407)) 45)) 255) + (IntKind.i64.wrap x15))) 255) (IntKind.i64.wrap (p0_c_i + 1))) else S_spec_l1Byte_j1 F p0_c_h (bAnd (bXor (shR (IntKind.i64.wrap ((IntKind.i64.wrap (p0_c_h * 6364136223846793005)) + 1442695040888963407)) 33) (shR (IntKind.i64.wrap ((IntKind.i64.wrap (p0_c_h * 6364136223846793005)) + 1442695040888963407)) 45)) 255) p0_c_i)

def S_spec_l1Below (F : Nat) (p0_c_b : List Int) (p0_c_i : Int) (p0_c_h : Int) (p1_n : Int) : Option (Int × Int × Int) :=
  (if (decide (p1_n ≤ 0)) = true then some (0, p0_c_i, p0_c_h) else (if (decide (p1_n ≤ 256)) = true then ((S_spec_l1Byte F p0_c_b p0_c_i p0_c_h).bind fun r15 => ((nzO p1_n).bind fun _ => some ((r15.1.tmod p1_n), r15.2.1, r15.2.2))) else ((S_spec_l1Byte F p0_c_b p0_c_i p0_c_h).bind fun r18 => ((S_spec_l1Byte F p0_c_b r18.2.1 r18.2.2).bind fun r21 => ((S_spec_l1Byte F p0_c_b r21.2.1 r21.2.2).bind fun r24 => ((S_spec_l1Byte F p0_c_b r24.2.1 r24.2.2).bind fun r27 => ((nzO p1_n).bind fun _ => some (((IntKind.i64.wrap ((IntKind.i64.wrap ((IntKind.i64.wrap ((IntKind.i64.wrap (r18.1 * 16777216)) + (IntKind.i64.wrap (r21.1 * 65536)))) + (IntKind.i64.wrap (r24.1 * 256)))) + r27.1)).tmod p1_n), r27.2.1, r27.2.2))))))))

def S_spec_l1Pick (F : Nat) (p0_c_b : List Int) (p0_c_i : Int) (p0_c_h : Int) (p1_list : List (List UInt8)) : Option ((List UInt8) × Int × Int) :=
  ((S_spec_l1Below F p0_c_b p0_c_i p0_c_h (p1_list.length : Int)).bind fun r5 => ((idxL p1_list r5.1).bind fun x6 => some (x6, r5.2.1, r5.2.2)))

def S_spec_l2Random_j1 (F : Nat) (x435 : Int) (l437 : List Int) (x438 : Int) (x439 : Int) : Option (Int × (List (Int)) × Int × Int) :=
  some (x435, l437, x438, x439)

def S_spec_l2Random_j3 (F : Nat) (x587 : Int) (x796 : Int) (x797 : Int) (x798 : Int) (l800 : List Int) : Option ((Int × Int × Int × (List Int) × Int) ⊕ ((Int × (List Int) × Int × Int))) :=
  some (Sum.inl (x796, x797, x798, l800, (IntKind.i64.wrap (x587 + 1))))

def S_spec_l2Random_j5 (F : Nat) (x827 : Int) (x856 : Int) (x857 : Int) (x858 : Int) (l860 : List Int) : Option ((Int × Int × Int × (List Int) × Int) ⊕ ((Int × Int × Int × (List Int)))) :=
  some (Sum.inl (x856, x857, x858, l860, (IntKind.i64.wrap (x827 + 1))))

def S_spec_l2Random_l4 (F : Nat) (p0_c_b : List Int) (p1_n : Int) (p2_odd : Int) (x587 : Int) (x822 : Int) (x823 : Int) (x824 : Int) (l826 : List Int) (x827 : Int) : Option ((Int × Int × Int × (List Int) × Int) ⊕ ((Int × Int × Int × (List Int)))) :=
  (if (decide (x827 < p1_n)) = true then ((S_spec_l1Below F p0_c_b x822 x823 10).bind fun r863 => (if (decide (r863.1 < p2_odd)) = true then ((S_spec_AddEdge F x824 l826 x587 x827).bind fun r864 => S_spec_l2Random_j5 F x827 r863.2.1 r863.2.2 r864.1 r864.2.1) else S_spec_l2Random_j5 F x827 r863.2.1 r863.2.2 x824 l826)) else some (Sum.inr (x822, x823, x824, l826)))

def S_spec_l2Random_l2 (F : Nat) (p0_c_b : List Int) (p1_n : Int) (p2_odd : Int) (x582 : Int) (x583 : Int) (x584 : Int) (l586 : List Int) (x587 : Int) : Option ((Int × Int × Int × (List Int) × Int) ⊕ ((Int × (List Int) × Int × Int))) :=
  (if (decide (x587 < p1_n)) = true then (loopN (σ := (Int × Int × Int × (List Int) × Int)) (β := ((Int × Int × Int × (List Int)))) (fun s => S_spec_l2Random_l4 F p0_c_b p1_n p2_odd x587 s.1 s.2.1 s.2.2.1 s.2.2.2.1 s.2.2.2.2) F (x582, x583, x584, l586, (IntKind.i64.wrap (x587 + 1)))).bind (fun b => S_spec_l2Random_j3 F x587 b.1 b.2.1 b.2.2.1 b.2.2.2) else some (Sum.inr (x584, l586, x582, x583)))

def S_spec_l2Random (F : Nat) (p0_c_b : List Int) (p0_c_i : Int) (p0_c_h : Int) (p1_n : Int) (p2_odd : Int) : Option (Int × (List (Int)) × Int × Int) :=
  ((mkO p1_n).bind fun _ => (loopN (σ := (Int × Int × Int × (List Int) × Int)) (β := ((Int × (List Int) × Int × Int))) (fun s => S_spec_l2Random_l2 F p0_c_b p1_n p2_odd s.1 s.2.1 s.2.2.1 s.2.2.2.1 s.2.2.2.2) F (p0_c_i, p0_c_h, p1_n, (List.replicate p1_n.toNat (0 : Int)), 0)).bind (fun b => S_spec_l2Random_j1 F b.1 b.2.1 b.2.2.1 b.2.2.2))

def S_spec_l1Once (F : Nat) (p0_c_b : List Int) (p0_c_i : Int) (p0_c_h : Int) (p1_n : Int) : Option (Bool × Int × Int) :=
  ((S_spec_l1Below F p0_c_b p0_c_i p0_c_h p1_n).bind fun r4 => some ((r4.1 == 0), r4.2.1, r4.2.2))

def S_spec_l2Draw_j1 (F : Nat) (x79 : Int) (l81 : List Int) (x82 : Int) (x83 : Int) : Option (Int × (List (Int)) × Int × Int) :=
  some (x79, l81, x82, x83)

def S_spec_l2Draw (F : Nat) (p0_c_b : List Int) (p0_c_i : Int) (p0_c_h : Int) : Option (Int × (List (Int)) × Int × Int) :=
  ((S_spec_l1Below F p0_c_b p0_c_i p0_c_h 6).bind fun r6 => ((S_spec_l1Below F p0_c_b r6.2.1 r6.2.2 4).bind fun r54 => (if (r54.1 == 0) = true then ((S_spec_l1Pick F p0_c_b r54.2.1 r54.2.2 ([([112, 97, 116, 104] : List UInt8), ([99, 121, 99, 108, 101] : List UInt8), ([99, 111, 109, 112, 108, 101, 116, 101] : List UInt8), ([115, 116, 97, 114] : List UInt8), ([119, 104, 101, 101, 108] : List UInt8)] : List (List UInt8))).bind fun r63 => ((S_spec_NamedGraph F r63.1 (IntKind.i64.wrap (1 + r6.1))).bind fun r64 => ((S_spec_l1Below F p0_c_b r63.2.1 r63.2.2 (IntKind.i64.wrap (1 + r6.1))).bind fun r69 => ((S_spec_l1Below F p0_c_b r69.2.1 r69.2.2 (IntKind.i64.wrap (1 + r6.1))).bind fun r72 => ((S_spec_l1Once F p0_c_b r72.2.1 r72.2.2 2).bind fun r87 => (if r87.1 = true then ((S_spec_AddEdge F r64.1 r64.2.1 r69.1 r72.1).bind fun r88 => S_spec_l2Draw_j1 F r88.1 r88.2.1 r87.2.1 r87.2.2) else S_spec_l2Draw_j1 F r64.1 r64.2.1 r87.2.1 r87.2.2)))))) else (if (r54.1 == 1) = true then ((S_spec_l2Random F p0_c_b r54.2.1 r54.2.2 (IntKind.i64.wrap (1 + r6.1)) 7).bind fun r94 => some (r94.1, r94.2.1, r94.2.2.1, r94.2.2.2)) else ((S_spec_l2Random F p0_c_b r54.2.1 r54.2.2 (IntKind.i64.wrap (1 + r6.1)) 4).bind fun r99 => some (r99.1, r99.2.1, r99.2.2.1, r99.2.2.2))))))

def S_spec_l1PickInt (F : Nat) (p0_c_b : List Int) (p0_c_i : Int) (p0_c_h : Int) (p1_list : List Int) : Option (Int × Int × Int) :=
  ((S_spec_l1Below F p0_c_b p0_c_i p0_c_h (p1_list.length : Int)).bind fun r5 => ((idxL p1_list r5.1).bind fun x6 => some (x6, r5.2.1, r5.2.2)))

def S_spec_l2Any_j1 (F : Nat) (x22 : Int) (l23 : List Int) (x24 : Int) (x25 : Int) : Option (Int × (List (Int)) × Int × Int) :=
  some (x22, l23, x24, x25)

def S_spec_l2Any (F : Nat) (p0_c_b : List Int) (p0_c_i : Int) (p0_c_h : Int) : Option (Int × (List (Int)) × Int × Int) :=
  ((S_spec_l2Draw F p0_c_b p0_c_i p0_c_h).bind fun r8 => ((S_spec_l1Below F p0_c_b r8.2.2.1 r8.2.2.2 18).bind fun r29 => (if (r29.1 == 0) = true then ((S_spec_l1PickInt F p0_c_b r29.2.1 r29.2.2 ([0, (-1), 8, 3] : List (Int))).bind fun r32 => S_spec_l2Any_j1 F r32.1 r8.2.1 r32.2.1 r32.2.2) else (if (r29.1 == 1) = true then ((S_spec_l1PickInt F p0_c_b r29.2.1 r29.2.2 ([(-1), 1, 2, 128, 9223372036854775807] : List (Int))).bind fun r35 => ((idxL r8.2.1 0).bind fun x36 => S_spec_l2Any_j1 F r8.1 (r8.2.1.set ((0 : Int).toNat) r35.1) r35.2.1 r35.2.2)) else S_spec_l2Any_j1 F r8.1 r8.2.1 r29.2.1 r29.2.2))))

def S_spec_l4Holey_j1 (F : Nat) (x42 : Int) (l44 : List Int) (x45 : Int) (x46 : Int) : Option (Int × (List (Int)) × Int × Int) :=
  some (x42, l44, x45, x46)

def S_spec_l4Holey (F : Nat) (p0_c_b : List Int) (p0_c_i : Int) (p0_c_h : Int) : Option (Int × (List (Int)) × Int × Int) :=
  ((S_spec_l1Once F p0_c_b p0_c_i p0_c_h 3).bind fun r15 => (if r15.1 = true then ((S_spec_l2Any F p0_c_b r15.2.1 r15.2.2).bind fun r19 => some (r19.1, r19.2.1, r19.2.2.1, r19.2.2.2)) else ((S_spec_l1Below F p0_c_b r15.2.1 r15.2.2 3).bind fun r26 => ((S_spec_NamedGraph F ([99, 121, 99, 108, 101] : List UInt8) (IntKind.i64.wrap (4 + r26.1))).bind fun r27 => ((S_spec_l1Below F p0_c_b r26.2.1 r26.2.2 r27.1).bind fun r32 => ((S_spec_l1Below F p0_c_b r32.2.1 r32.2.2 r27.1).bind fun r35 => ((S_spec_l1Once F p0_c_b r35.2.1 r35.2.2 3).bind fun r50 => (if r50.1 = true then ((S_spec_AddEdge F r27.1 r27.2.1 r32.1 r35.1).bind fun r51 => S_spec_l4Holey_j1 F r51.1 r51.2.1 r50.2.1 r50.2.2) else S_spec_l4Holey_j1 F r27.1 r27.2.1 r50.2.1 r50.2.2))))))))

def S_spec_l1New_j1 (F : Nat) (x23 : Int) : Option (Int × Int) :=
  some (0, x23)

def S_spec_l1New_j3 (F : Nat) (p0_code : List Int) (x28 : Int) (x29 : Int) (p42 : Bool) : Option ((Int × Int) ⊕ (Int)) :=
  (if p42 = true then ((idxL p0_code x29).bind fun x45 => some (Sum.inl ((bAnd (IntKind.i64.wrap ((IntKind.i64.wrap ((IntKind.i64.wrap (x28 * 131)) + (IntKind.i64.wrap x45))) + 7)) 1073741823), (IntKind.i64.wrap (x29 + 1))))) else some (Sum.inr x28))

def S_spec_l1New_l2 (F : Nat) (p0_code : List Int) (x28 : Int) (x29 : Int) : Option ((Int × Int) ⊕ (Int)) :=
  (if (decide (x29 < (p0_code.length : Int))) = true then S_spec_l1New_j3 F p0_code x28 x29 (decide (x29 < 4000)) else S_spec_l1New_j3 F p0_code x28 x29 false)

def S_spec_l1New (F : Nat) (p0_code : List Int) : Option (Int × Int) :=
  (loopN (σ := (Int × Int)) (β := Int) (fun s => S_spec_l1New_l2 F p0_code s.1 s.2) F ((IntKind.i64.wrap (10101 + (p0_code.length : Int))), 0)).bind (fun b => S_spec_l1New_j1 F b)

def S_spec_DrawFindHole (F : Nat) (p0_code : List Int) : Option (Int × (List (Int))) :=
  ((S_spec_l1New F p0_code).bind fun r9 => ((S_spec_l4Holey F p0_code r9.1 r9.2).bind fun r11 => some (r11.1, r11.2.1)))

def S_laws_sameInts_j1 (F : Nat) : Option (Bool) :=
  some true

def S_laws_sameInts_l2 (F : Nat) (p0_a : List Int) (p1_b : List Int) (x44 : Int) : Option ((Int) ⊕ (Unit ⊕ Bool)) :=
  (if (decide (x44 < (p0_a.length : Int))) = true then ((idxL p0_a x44).bind fun x74 => ((idxL p1_b x44).bind fun x75 => (if (x74 != x75) = true then some (Sum.inr (Sum.inr false)) else some (Sum.inl (IntKind.i64.wrap (x44 + 1)))))) else some (Sum.inr (Sum.inl ())))

def S_laws_sameInts (F : Nat) (p0_a : List Int) (p1_b : List Int) : Option (Bool) :=
  (if ((p0_a.length : Int) != (p1_b.length : Int)) = true then some false else (loopN (σ := Int) (β := (Unit ⊕ Bool)) (fun s => S_laws_sameInts_l2 F p0_a p1_b s) F 0).bind (fun b => (match b with | .inl o => S_laws_sameInts_j1 F | .inr o => some o)))

def S_slices_Min_int_j1 (F : Nat) (x24 : Int) : Option (Int) :=
  some x24

def S_slices_Min_int_l2 (F : Nat) (p0_x : List Int) (x27 : Int) (x28 : Int) : Option ((Int × Int) ⊕ (Int)) :=
  (if (decide (x28 < (p0_x.length : Int))) = true then ((idxL p0_x x28).bind fun x40 => some (Sum.inl ((if x40 < x27 then x40 else x27), (IntKind.i64.wrap (x28 + 1))))) else some (Sum.inr x27))

def S_slices_Min_int (F : Nat) (p0_x : List Int) : Option (Int) :=
  (if (decide ((p0_x.length : Int) < 1)) = true then none else ((idxL p0_x 0).bind fun x7 => (loopN (σ := (Int × Int)) (β := Int) (fun s => S_slices_Min_int_l2 F p0_x s.1 s.2) F (x7, 1)).bind (fun b => S_slices_Min_int_j1 F b)))

def S_impl_CanonicalCycle_j2 (F : Nat) (l77 : List Int) : Option ((List (Int))) :=
  some l77

def S_impl_CanonicalCycle_l3 (F : Nat) (p0_l : List Int) (x32 : Int) (x80 : Int) (l82 : List Int) (x83 : Int) : Option ((Int × (List Int) × Int) ⊕ (((List Int)))) :=
  (if (decide (x83 < (p0_l.length : Int))) = true then ((idxL p0_l x80).bind fun x115 => ((catO l82.length ([x115] : List (Int)).length).bind fun _ => ((nzO (p0_l.length : Int)).bind fun _ => some (Sum.inl (((IntKind.i64.wrap (x80 + x32)).tmod (p0_l.length : Int)), (l82 ++ ([x115] : List (Int))), (IntKind.i64.wrap (x83 + 1))))))) else some (Sum.inr l82))

def S_impl_CanonicalCycle_j1 (F : Nat) (p0_l : List Int) (r24 : Int) (x32 : Int) : Option ((List (Int))) :=
  (loopN (σ := (Int × (List Int) × Int)) (β := (((List Int)))) (fun s => S_impl_CanonicalCycle_l3 F p0_l x32 s.1 s.2.1 s.2.2) F (r24, ([] : List (Int)), 0)).bind (fun b => S_impl_CanonicalCycle_j2 F b)

def S_impl_CanonicalCycle (F : Nat) (p0_l : List Int) : Option ((List (Int))) :=
  ((S_impl_within F (p0_l.length : Int) 3 20).bind fun r14 => (if (!r14) = true then ((catO ([] : List (Int)).length p0_l.length).bind fun _ => some (([] : List (Int)) ++ p0_l)) else ((S_slices_Min_int F p0_l).bind fun r23 => ((S_slices_Index_int F p0_l r23).bind fun r24 => ((nzO (p0_l.length : Int)).bind fun _ => ((idxL p0_l ((IntKind.i64.wrap ((IntKind.i64.wrap (r24 + (p0_l.length : Int))) - 1)).tmod (p0_l.length : Int))).bind fun x121 => ((nzO (p0_l.length : Int)).bind fun _ => ((idxL p0_l ((IntKind.i64.wrap (r24 + 1)).tmod (p0_l.length : Int))).bind fun x122 => (if (decide (x121 < x122)) = true then S_impl_CanonicalCycle_j1 F p0_l r24 (IntKind.i64.wrap ((p0_l.length : Int) - 1)) else S_impl_CanonicalCycle_j1 F p0_l r24 1)))))))))

def S_spec_DrawFindInducedPath (F : Nat) (p0_code : List Int) : Option (Int × (List (Int)) × Int) :=
  ((S_spec_l1New F p0_code).bind fun r7 => ((S_spec_l2Any F p0_code r7.1 r7.2).bind fun r13 => ((S_spec_l1Below F p0_code r13.2.2.1 r13.2.2.2 8).bind fun r18 => some (r13.1, r13.2.1, (IntKind.i64.wrap (r18.1 - 1))))))

def S_spec_DrawFindTwoEdges (F : Nat) (p0_code : List Int) : Option (Int × (List (Int))) :=
  ((S_spec_l1New F p0_code).bind fun r9 => ((S_spec_l2Any F p0_code r9.1 r9.2).bind fun r11 => some (r11.1, r11.2.1)))

def S_spec_ComplementOf_j1 (F : Nat) (p0_g_Size : Int) (l61 : List Int) : Option (Int × (List (Int)) × Bool) :=
  some (p0_g_Size, l61, true)

def S_spec_ComplementOf_j3 (F : Nat) (x79 : Int) (l100 : List Int) : Option (((List Int) × Int) ⊕ (((List Int)))) :=
  some (Sum.inl (l100, (IntKind.i64.wrap (x79 + 1))))

def S_spec_ComplementOf_l2 (F : Nat) (p0_g_Size : Int) (p0_g_Rows : List Int) (l78 : List Int) (x79 : Int) : Option (((List Int) × Int) ⊕ (((List Int)))) :=
  (if (decide (x79 < p0_g_Size)) = true then ((nnO p0_g_Size).bind fun _ => ((idxL p0_g_Rows x79).bind fun x101 => ((nnO x79).bind fun _ => ((catO l78.length ([(IntKind.i64.wrap ((IntKind.i64.wrap ((IntKind.i64.wrap ((shL 1 p0_g_Size) - 1)) - x101)) - (shL 1 x79)))] : List (Int)).length).bind fun _ => S_spec_ComplementOf_j3 F x79 (l78 ++ ([(IntKind.i64.wrap ((IntKind.i64.wrap ((IntKind.i64.wrap ((shL 1 p0_g_Size) - 1)) - x101)) - (shL 1 x79)))] : List (Int))))))) else some (Sum.inr l78))

def S_spec_ComplementOf (F : Nat) (p0_g_Size : Int) (p0_g_Rows : List Int) : Option (Int × (List (Int)) × Bool) :=
  ((S_spec_IsGraph F p0_g_Size p0_g_Rows).bind fun r13 => (if (!r13) = true then some (0, ([] : List (Int)), false) else (loopN (σ := ((List Int) × Int)) (β := (((List Int)))) (fun s => S_spec_ComplementOf_l2 F p0_g_Size p0_g_Rows s.1 s.2) F (([] : List (Int)), 0)).bind (fun b => S_spec_ComplementOf_j1 F p0_g_Size b)))

def S_spec_DrawFindClaw (F : Nat) (p0_code : List Int) : Option (Int × (List (Int))) :=
  ((S_spec_l1New F p0_code).bind fun r9 => ((S_spec_l2Any F p0_code r9.1 r9.2).bind fun r11 => some (r11.1, r11.2.1)))

def S_spec_l4List_j2 (F : Nat) (l62 : List Int) (x63 : Int) (x64 : Int) : Option ((List (Int)) × Int × Int) :=
  some (l62, x63, x64)

def S_spec_l4List_j1 (F : Nat) (p0_c_b : List Int) (x49 : Int) (x50 : Int) (l52 : List Int) : Option ((List (Int)) × Int × Int) :=
  ((S_spec_l1Once F p0_c_b x49 x50 14).bind fun r68 => (if r68.1 = true then ((S_spec_l1PickInt F p0_c_b r68.2.1 r68.2.2 ([(-1), 7] : List (Int))).bind fun r70 => ((catO l52.length ([r70.1] : List (Int)).length).bind fun _ => S_spec_l4List_j2 F (l52 ++ ([r70.1] : List (Int))) r70.2.1 r70.2.2)) else S_spec_l4List_j2 F l52 r68.2.1 r68.2.2))

def S_spec_l4List_l3 (F : Nat) (p0_c_b : List Int) (p1_g_Size : Int) (x89 : Int) (x90 : Int) (l92 : List Int) (x93 : Int) : Option ((Int × Int × (List Int) × Int) ⊕ ((Int × Int × (List Int)))) :=
  (if (decide ((0 : Int) < x93)) = true then ((S_spec_l1Below F p0_c_b x89 x90 (if (if p1_g_Size < 7 then p1_g_Size else 7) > 1 then (if p1_g_Size < 7 then p1_g_Size else 7) else 1)).bind fun r111 => ((catO l92.length ([r111.1] : List (Int)).length).bind fun _ => some (Sum.inl (r111.2.1, r111.2.2, (l92 ++ ([r111.1] : List (Int))), (IntKind.i64.wrap (x93 - 1)))))) else some (Sum.inr (x89, x90, l92)))

def S_spec_l4List (F : Nat) (p0_c_b : List Int) (p0_c_i : Int) (p0_c_h : Int) (p1_g_Size : Int) (p1_g_Rows : List Int) : Option ((List (Int)) × Int × Int) :=
  ((S_spec_l1Below F p0_c_b p0_c_i p0_c_h 6).bind fun r75 => (loopN (σ := (Int × Int × (List Int) × Int)) (β := ((Int × Int × (List Int)))) (fun s => S_spec_l4List_l3 F p0_c_b p1_g_Size s.1 s.2.1 s.2.2.1 s.2.2.2) F (r75.2.1, r75.2.2, ([] : List (Int)), r75.1)).bind (fun b => S_spec_l4List_j1 F p0_c_b b.1 b.2.1 b.2.2))

def S_spec_DrawIsInducedPath_j1 (F : Nat) (p0_code : List Int) (r13 : Int × (List (Int)) × Int × Int) (r21 : (List (Int)) × Bool) (x33 : Int) (x34 : Int) (p35 : Bool) : Option (Int × (List (Int)) × (List (Int))) :=
  (if p35 = true then some (r13.1, r13.2.1, r21.1) else ((S_spec_l4List F p0_code x33 x34 r13.1 r13.2.1).bind fun r40 => some (r13.1, r13.2.1, r40.1)))

def S_spec_DrawIsInducedPath (F : Nat) (p0_code : List Int) : Option (Int × (List (Int)) × (List (Int))) :=
  ((S_spec_l1New F p0_code).bind fun r7 => ((S_spec_l2Any F p0_code r7.1 r7.2).bind fun r13 => ((S_spec_l1Below F p0_code r13.2.2.1 r13.2.2.2 4).bind fun r20 => ((S_spec_FindInducedPath F r13.1 r13.2.1 (IntKind.i64.wrap (1 + r20.1))).bind fun r21 => (if r21.2 = true then ((S_spec_l1Once F p0_code r20.2.1 r20.2.2 3).bind fun r42 => S_spec_DrawIsInducedPath_j1 F p0_code r13 r21 r42.2.1 r42.2.2 (!r42.1)) else S_spec_DrawIsInducedPath_j1 F p0_code r13 r21 r20.2.1 r20.2.2 false)))))

def S_spec_DrawIsHole_j1 (F : Nat) (p0_code : List Int) (r13 : Int × (List (Int)) × Int × Int) (r19 : (List (Int)) × Bool) (x31 : Int) (x32 : Int) (p33 : Bool) : Option (Int × (List (Int)) × (List (Int))) :=
  (if p33 = true then some (r13.1, r13.2.1, r19.1) else ((S_spec_l4List F p0_code x31 x32 r13.1 r13.2.1).bind fun r38 => some (r13.1, r13.2.1, r38.1)))

def S_spec_DrawIsHole (F : Nat) (p0_code : List Int) : Option (Int × (List (Int)) × (List (Int))) :=
  ((S_spec_l1New F p0_code).bind fun r7 => ((S_spec_l4Holey F p0_code r7.1 r7.2).bind fun r13 => ((S_spec_FindHole F r13.1 r13.2.1).bind fun r19 => (if r19.2 = true then ((S_spec_l1Once F p0_code r13.2.2.1 r13.2.2.2 4).bind fun r40 => S_spec_DrawIsHole_j1 F p0_code r13 r19 r40.2.1 r40.2.2 (!r40.1)) else S_spec_DrawIsHole_j1 F p0_code r13 r19 r13.2.2.1 r13.2.2.2 false))))

def S_spec_DrawIsClaw_j1 (F : Nat) (p0_code : List Int) (r13 : Int × (List (Int)) × Int × Int) (r19 : (List (Int)) × Bool) (x31 : Int) (x32 : Int) (p33 : Bool) : Option (Int × (List (Int)) × (List (Int))) :=
  (if p33 = true then some (r13.1, r13.2.1, r19.1) else ((S_spec_l4List F p0_code x31 x32 r13.1 r13.2.1).bind fun r38 => some (r13.1, r13.2.1, r38.1)))

def S_spec_DrawIsClaw (F : Nat) (p0_code : List Int) : Option (Int × (List (Int)) × (List (Int))) :=
  ((S_spec_l1New F p0_code).bind fun r7 => ((S_spec_l2Any F p0_code r7.1 r7.2).bind fun r13 => ((S_spec_FindClaw F r13.1 r13.2.1).bind fun r19 => (if r19.2 = true then ((S_spec_l1Once F p0_code r13.2.2.1 r13.2.2.2 4).bind fun r40 => S_spec_DrawIsClaw_j1 F p0_code r13 r19 r40.2.1 r40.2.2 (!r40.1)) else S_spec_DrawIsClaw_j1 F p0_code r13 r19 r13.2.2.1 r13.2.2.2 false))))

def S_spec_DrawIsTwoEdges_j1 (F : Nat) (p0_code : List Int) (r13 : Int × (List (Int)) × Int × Int) (r19 : (List (Int)) × Bool) (x31 : Int) (x32 : Int) (p33 : Bool) : Option (Int × (List (Int)) × (List (Int))) :=
  (if p33 = true then some (r13.1, r13.2.1, r19.1) else ((S_spec_l4List F p0_code x31 x32 r13.1 r13.2.1).bind fun r38 => some (r13.1, r13.2.1, r38.1)))

def S_spec_DrawIsTwoEdges (F : Nat) (p0_code : List Int) : Option (Int × (List (Int)) × (List (Int))) :=
  ((S_spec_l1New F p0_code).bind fun r7 => ((S_spec_l2Any F p0_code r7.1 r7.2).bind fun r13 => ((S_spec_FindTwoEdges F r13.1 r13.2.1).bind fun r19 => (if r19.2 = true then ((S_spec_l1Once F p0_code r13.2.2.1 r13.2.2.2 4).bind fun r40 => S_spec_DrawIsTwoEdges_j1 F p0_code r13 r19 r40.2.1 r40.2.2 (!r40.1)) else S_spec_DrawIsTwoEdges_j1 F p0_code r13 r19 r13.2.2.1 r13.2.2.2 false))))

def S_spec_DrawCanonicalCycle (F : Nat) (p0_code : List Int) : Option ((List (Int))) :=
  ((S_spec_l1New F p0_code).bind fun r5 => ((S_spec_l4List F p0_code r5.1 r5.2 6 ([] : List (Int))).bind fun r10 => some r10.1))

def S_spec_CanonicalCycle_j3 (F : Nat) (l115 : List Int) : Option ((List (Int))) :=
  some l115

def S_spec_CanonicalCycle_j5 (F : Nat) (x120 : Int) (l165 : List Int) : Option (((List Int) × Int) ⊕ (((List Int)))) :=
  some (Sum.inl (l165, (IntKind.i64.wrap (x120 + 1))))

def S_spec_CanonicalCycle_l4 (F : Nat) (p0_l : List Int) (x51 : Int) (l119 : List Int) (x120 : Int) : Option (((List Int) × Int) ⊕ (((List Int)))) :=
  (if (decide (x120 < (p0_l.length : Int))) = true then ((nzO (p0_l.length : Int)).bind fun _ => ((idxL p0_l ((IntKind.i64.wrap (x51 + 1)).tmod (p0_l.length : Int))).bind fun x169 => ((nzO (p0_l.length : Int)).bind fun _ => ((idxL p0_l ((IntKind.i64.wrap ((IntKind.i64.wrap (x51 + (p0_l.length : Int))) - 1)).tmod (p0_l.length : Int))).bind fun x170 => (if (decide (x169 ≤ x170)) = true then ((nzO (p0_l.length : Int)).bind fun _ => ((idxL p0_l ((IntKind.i64.wrap (x51 + x120)).tmod (p0_l.length : Int))).bind fun x171 => ((catO l119.length ([x171] : List (Int)).length).bind fun _ => S_spec_CanonicalCycle_j5 F x120 (l119 ++ ([x171] : List (Int)))))) else ((nzO (p0_l.length : Int)).bind fun _ => ((idxL p0_l ((IntKind.i64.wrap ((IntKind.i64.wrap (x51 + (p0_l.length : Int))) - x120)).tmod (p0_l.length : Int))).bind fun x174 => ((catO l119.length ([x174] : List (Int)).length).bind fun _ => S_spec_CanonicalCycle_j5 F x120 (l119 ++ ([x174] : List (Int))))))))))) else some (Sum.inr l119))

def S_spec_CanonicalCycle_j2 (F : Nat) (p0_l : List Int) (x51 : Int) : Option ((List (Int))) :=
  (loopN (σ := ((List Int) × Int)) (β := (((List Int)))) (fun s => S_spec_CanonicalCycle_l4 F p0_l x51 s.1 s.2) F (([] : List (Int)), 0)).bind (fun b => S_spec_CanonicalCycle_j3 F b)

def S_spec_CanonicalCycle_j7 (F : Nat) (x179 : Int) (x204 : Int) : Option ((Int × Int) ⊕ (Int)) :=
  some (Sum.inl (x204, (IntKind.i64.wrap (x179 + 1))))

def S_spec_CanonicalCycle_l6 (F : Nat) (p0_l : List Int) (x178 : Int) (x179 : Int) : Option ((Int × Int) ⊕ (Int)) :=
  (if (decide (x179 < (p0_l.length : Int))) = true then ((idxL p0_l x179).bind fun x208 => ((idxL p0_l x178).bind fun x209 => (if (decide (x208 < x209)) = true then S_spec_CanonicalCycle_j7 F x179 x179 else S_spec_CanonicalCycle_j7 F x179 x178))) else some (Sum.inr x178))

def S_spec_CanonicalCycle_j1 (F : Nat) (p0_l : List Int) (p12 : Bool) : Option ((List (Int))) :=
  (if p12 = true then ((catO ([] : List (Int)).length p0_l.length).bind fun _ => some (([] : List (Int)) ++ p0_l)) else (loopN (σ := (Int × Int)) (β := Int) (fun s => S_spec_CanonicalCycle_l6 F p0_l s.1 s.2) F (0, 0)).bind (fun b => S_spec_CanonicalCycle_j2 F p0_l b))

def S_spec_CanonicalCycle (F : Nat) (p0_l : List Int) : Option ((List (Int))) :=
  (if (decide ((p0_l.length : Int) < 3)) = true then S_spec_CanonicalCycle_j1 F p0_l true else S_spec_CanonicalCycle_j1 F p0_l (decide ((20 : Int) < (p0_l.length : Int))))

def S_laws_FnParts_j6 (F : Nat) (p232 : Bool) : Option (Bool) :=
  some p232

def S_laws_FnParts_j5 (F : Nat) (p0_code : List Int) (p175 : Bool) : Option (Bool) :=
  (if p175 = true then some false else ((S_spec_DrawIsInducedPath F p0_code).bind fun r182 => ((S_spec_DrawIsHole F p0_code).bind fun r191 => ((S_spec_DrawIsClaw F p0_code).bind fun r200 => ((S_spec_DrawIsTwoEdges F p0_code).bind fun r209 => ((S_spec_DrawCanonicalCycle F p0_code).bind fun r216 => ((S_impl_IsInducedPath F r182.1 r182.2.1 r182.2.2).bind fun r233 => ((S_spec_IsInducedPath F r182.1 r182.2.1 r182.2.2).bind fun r234 => (if (r233 == r234) = true then ((S_impl_IsHole F r191.1 r191.2.1 r191.2.2).bind fun r235 => ((S_spec_IsHole F r191.1 r191.2.1 r191.2.2).bind fun r236 => (if (r235 == r236) = true then ((S_impl_IsClaw F r200.1 r200.2.1 r200.2.2).bind fun r237 => ((S_spec_IsClaw F r200.1 r200.2.1 r200.2.2).bind fun r238 => (if (r237 == r238) = true then ((S_impl_IsTwoEdges F r209.1 r209.2.1 r209.2.2).bind fun r239 => ((S_spec_IsTwoEdges F r209.1 r209.2.1 r209.2.2).bind fun r240 => (if (r239 == r240) = true then ((S_impl_CanonicalCycle F r216).bind fun r241 => ((S_spec_CanonicalCycle F r216).bind fun r243 => ((S_laws_sameInts F r241 r243).bind fun r245 => S_laws_FnParts_j6 F r245))) else S_laws_FnParts_j6 F false))) else S_laws_FnParts_j6 F false))) else S_laws_FnParts_j6 F false))) else S_laws_FnParts_j6 F false)))))))))

def S_laws_FnParts_j4 (F : Nat) (p0_code : List Int) (p145 : Bool) : Option (Bool) :=
  (if p145 = true then some false else ((S_spec_DrawFindClaw F p0_code).bind fun r151 => ((S_impl_FindClaw F r151.1 r151.2).bind fun r157 => ((S_spec_FindClaw F r151.1 r151.2).bind fun r162 => (if (r157.2 != r162.2) = true then S_laws_FnParts_j5 F p0_code true else ((S_laws_sameInts F r157.1 r162.1).bind fun r246 => (if (!r246) = true then S_laws_FnParts_j5 F p0_code true else (if r157.2 = true then ((S_impl_IsClaw F r151.1 r151.2 r162.1).bind fun r247 => S_laws_FnParts_j5 F p0_code (!r247)) else S_laws_FnParts_j5 F p0_code false))))))))

def S_laws_FnParts_j3 (F : Nat) (p0_code : List Int) (p90 : Bool) : Option (Bool) :=
  (if p90 = true then some false else ((S_spec_DrawFindTwoEdges F p0_code).bind fun r96 => ((S_impl_FindTwoEdges F r96.1 r96.2).bind fun r102 => ((S_spec_FindTwoEdges F r96.1 r96.2).bind fun r107 => ((S_spec_ComplementOf F r96.1 r96.2).bind fun r113 => (if (r102.2 != r107.2) = true then S_laws_FnParts_j4 F p0_code true else ((S_laws_sameInts F r102.1 r107.1).bind fun r248 => (if (!r248) = true then S_laws_FnParts_j4 F p0_code true else (if r102.2 = true then ((S_impl_IsTwoEdges F r96.1 r96.2 r107.1).bind fun r249 => (if (!r249) = true then S_laws_FnParts_j4 F p0_code true else (if r113.2.2 = true then ((idxL r107.1 0).bind fun x250 => ((idxL r107.1 2).bind fun x251 => ((idxL r107.1 1).bind fun x252 => ((idxL r107.1 3).bind fun x253 => ((S_impl_IsHole F r113.1 r113.2.1 ([x250, x251, x252, x253] : List (Int))).bind fun r255 => S_laws_FnParts_j4 F p0_code (!r255)))))) else S_laws_FnParts_j4 F p0_code false))) else S_laws_FnParts_j4 F p0_code false)))))))))

def S_laws_FnParts_j2 (F : Nat) (p0_code : List Int) (r54 : Int × (List (Int)) × Int) (r60 : (List (Int)) × Bool) (p78 : Bool) : Option (Bool) :=
  (if p78 = true then some false else ((S_spec_FindInducedPath F r54.1 r54.2.1 (IntKind.i64.wrap (r54.2.2 + 1))).bind fun r83 => (if r83.2 = true then (if (!r60.2) = true then S_laws_FnParts_j3 F p0_code (decide ((1 : Int) ≤ r54.2.2)) else S_laws_FnParts_j3 F p0_code false) else S_laws_FnParts_j3 F p0_code false)))

def S_laws_FnParts_j1 (F : Nat) (p0_code : List Int) (p48 : Bool) : Option (Bool) :=
  (if p48 = true then some false else ((S_spec_DrawFindInducedPath F p0_code).bind fun r54 => ((S_impl_FindInducedPath F r54.1 r54.2.1 r54.2.2).bind fun r60 => ((S_spec_FindInducedPath F r54.1 r54.2.1 r54.2.2).bind fun r65 => (if (r60.2 != r65.2) = true then S_laws_FnParts_j2 F p0_code r54 r60 true else ((S_laws_sameInts F r60.1 r65.1).bind fun r256 => (if (!r256) = true then S_laws_FnParts_j2 F p0_code r54 r60 true else (if r60.2 = true then ((S_impl_IsInducedPath F r54.1 r54.2.1 r65.1).bind fun r257 => (if (!r257) = true then S_laws_FnParts_j2 F p0_code r54 r60 true else S_laws_FnParts_j2 F p0_code r54 r60 ((r65.1.length : Int) != r54.2.2))) else S_laws_FnParts_j2 F p0_code r54 r60 false))))))))

def S_laws_FnParts (F : Nat) (p0_code : List Int) : Option (Bool) :=
  ((S_laws_big F p0_code).bind fun r9 => (if r9 = true then some true else ((S_spec_DrawFindHole F p0_code).bind fun r15 => ((S_impl_FindHole F r15.1 r15.2).bind fun r21 => ((S_spec_FindHole F r15.1 r15.2).bind fun r26 => (if (r21.2 != r26.2) = true then S_laws_FnParts_j1 F p0_code true else ((S_laws_sameInts F r21.1 r26.1).bind fun r258 => (if (!r258) = true then S_laws_FnParts_j1 F p0_code true else (if r21.2 = true then ((S_impl_IsHole F r15.1 r15.2 r26.1).bind fun r259 => (if (!r259) = true then S_laws_FnParts_j1 F p0_code true else ((S_impl_CanonicalCycle F r26.1).bind fun r260 => ((S_impl_IsHole F r15.1 r15.2 r260).bind fun r262 => S_laws_FnParts_j1 F p0_code (!r262))))) else S_laws_FnParts_j1 F p0_code false)))))))))

end Go.Proofs.Ytilfniehellmmaa
