/- Proved here: nothing but what each Go function of the seat computes, as printed by my translator -/
import Derived.Test.YtilfniehellmmaaK11
namespace Go.Proofs.Ytilfniehellmmaa
open Go Go.RowKit
set_option linter.unusedVariables false
set_option linter.unusedSimpArgs false
set_option maxRecDepth 100000
set_option maxHeartbeats 4000000

def S_spec_l1In_j1 (F : Nat) (p3 : Bool) : Option (Bool) :=
  some p3

def S_spec_l1In (F : Nat) (p0_x : Int) (p1_low : Int) (p2_high : Int) : Option (Bool) :=
  (if (decide (p1_low ≤ p0_x)) = true then S_spec_l1In_j1 F (decide (p0_x ≤ p2_high)) else S_spec_l1In_j1 F false)

def S_spec_SetOf_j1 (F : Nat) (x95 : Int) : Option (Int × Bool) :=
  some (x95, true)

def S_spec_SetOf_j3 (F : Nat) (p0_l : List Int) (x98 : Int) (x99 : Int) (p182 : Bool) : Option ((Int × Int) ⊕ (Int ⊕ (Int × Bool))) :=
  (if p182 = true then some (Sum.inr (Sum.inr (0, false))) else ((idxL p0_l x99).bind fun x184 => ((nnO x184).bind fun _ => some (Sum.inl ((IntKind.i64.wrap (x98 + (shL 1 x184))), (IntKind.i64.wrap (x99 + 1)))))))

def S_spec_SetOf_l2 (F : Nat) (p0_l : List Int) (x98 : Int) (x99 : Int) : Option ((Int × Int) ⊕ (Int ⊕ (Int × Bool))) :=
  (if (decide (x99 < (p0_l.length : Int))) = true then ((idxL p0_l x99).bind fun x185 => ((S_spec_l1In F x185 0 6).bind fun r186 => (if (!r186) = true then S_spec_SetOf_j3 F p0_l x98 x99 true else ((idxL p0_l x99).bind fun x187 => ((nnO x187).bind fun _ => S_spec_SetOf_j3 F p0_l x98 x99 ((bAnd (shR x98 x187) 1) == 1)))))) else some (Sum.inr (Sum.inl x98)))

def S_spec_SetOf (F : Nat) (p0_l : List Int) : Option (Int × Bool) :=
  (loopN (σ := (Int × Int)) (β := (Int ⊕ (Int × Bool))) (fun s => S_spec_SetOf_l2 F p0_l s.1 s.2) F (0, 0)).bind (fun b => (match b with | .inl o => S_spec_SetOf_j1 F o | .inr o => some o))

def S_spec_IsGraph_j2 (F : Nat) : Option (Bool) :=
  some true

def S_spec_IsGraph_j4 (F : Nat) (x319 : Int) : Option ((Int) ⊕ (Unit ⊕ Bool)) :=
  some (Sum.inl (IntKind.i64.wrap (x319 + 1)))

def S_spec_IsGraph_j7 (F : Nat) (x564 : Int) (p611 : Bool) : Option ((Int) ⊕ (Unit ⊕ Bool)) :=
  (if p611 = true then some (Sum.inr (Sum.inr false)) else some (Sum.inl (IntKind.i64.wrap (x564 + 1))))

def S_spec_IsGraph_l6 (F : Nat) (p0_g_Size : Int) (p0_g_Rows : List Int) (x319 : Int) (x564 : Int) : Option ((Int) ⊕ (Unit ⊕ Bool)) :=
  (if (decide (x564 < p0_g_Size)) = true then ((idxL p0_g_Rows x319).bind fun x613 => ((nnO x564).bind fun _ => (if ((bAnd (shR x613 x564) 1) == 1) = true then ((idxL p0_g_Rows x564).bind fun x614 => (if (decide (x614 < 0)) = true then S_spec_IsGraph_j7 F x564 true else ((idxL p0_g_Rows x564).bind fun x615 => ((nnO p0_g_Size).bind fun _ => (if (decide ((shL 1 p0_g_Size) ≤ x615)) = true then S_spec_IsGraph_j7 F x564 true else ((idxL p0_g_Rows x564).bind fun x616 => ((nnO x319).bind fun _ => S_spec_IsGraph_j7 F x564 ((bAnd (shR x616 x319) 1) == 0)))))))) else S_spec_IsGraph_j7 F x564 false))) else some (Sum.inr (Sum.inl ())))

def S_spec_IsGraph_j5 (F : Nat) (p0_g_Size : Int) (p0_g_Rows : List Int) (x319 : Int) (p561 : Bool) : Option ((Int) ⊕ (Unit ⊕ Bool)) :=
  (if p561 = true then some (Sum.inr (Sum.inr false)) else (loopN (σ := Int) (β := (Unit ⊕ Bool)) (fun s => S_spec_IsGraph_l6 F p0_g_Size p0_g_Rows x319 s) F 0).bind (fun b => (match b with | .inl o => S_spec_IsGraph_j4 F x319 | .inr o => some (Sum.inr (Sum.inr o)))))

def S_spec_IsGraph_l3 (F : Nat) (p0_g_Size : Int) (p0_g_Rows : List Int) (x319 : Int) : Option ((Int) ⊕ (Unit ⊕ Bool)) :=
  (if (decide (x319 < p0_g_Size)) = true then ((idxL p0_g_Rows x319).bind fun x617 => (if (decide (x617 < 0)) = true then S_spec_IsGraph_j5 F p0_g_Size p0_g_Rows x319 true else ((idxL p0_g_Rows x319).bind fun x618 => ((nnO p0_g_Size).bind fun _ => (if (decide ((shL 1 p0_g_Size) ≤ x618)) = true then S_spec_IsGraph_j5 F p0_g_Size p0_g_Rows x319 true else ((idxL p0_g_Rows x319).bind fun x619 => ((nnO x319).bind fun _ => S_spec_IsGraph_j5 F p0_g_Size p0_g_Rows x319 ((bAnd (shR x619 x319) 1) == 1)))))))) else some (Sum.inr (Sum.inl ())))

def S_spec_IsGraph_j1 (F : Nat) (p0_g_Size : Int) (p0_g_Rows : List Int) (p12 : Bool) : Option (Bool) :=
  (if p12 = true then some false else (loopN (σ := Int) (β := (Unit ⊕ Bool)) (fun s => S_spec_IsGraph_l3 F p0_g_Size p0_g_Rows s) F 0).bind (fun b => (match b with | .inl o => S_spec_IsGraph_j2 F | .inr o => some o)))

def S_spec_IsGraph (F : Nat) (p0_g_Size : Int) (p0_g_Rows : List Int) : Option (Bool) :=
  ((S_spec_l1In F p0_g_Size 1 7).bind fun r620 => (if (!r620) = true then S_spec_IsGraph_j1 F p0_g_Size p0_g_Rows true else S_spec_IsGraph_j1 F p0_g_Size p0_g_Rows ((p0_g_Rows.length : Int) != p0_g_Size)))

def S_spec_IsSet_j1 (F : Nat) (p6 : Bool) : Option (Bool) :=
  some p6

def S_spec_IsSet (F : Nat) (p0_g_Size : Int) (p0_g_Rows : List Int) (p1_set : Int) : Option (Bool) :=
  ((S_spec_IsGraph F p0_g_Size p0_g_Rows).bind fun r7 => (if r7 = true then (if (decide ((0 : Int) ≤ p1_set)) = true then ((nnO p0_g_Size).bind fun _ => S_spec_IsSet_j1 F (decide (p1_set < (shL 1 p0_g_Size)))) else S_spec_IsSet_j1 F false) else S_spec_IsSet_j1 F false))

def S_spec_l4Distinct_j1 (F : Nat) (p10 : Bool) : Option (Bool) :=
  some p10

def S_spec_l4Distinct (F : Nat) (p0_g_Size : Int) (p0_g_Rows : List Int) (p1_l : List Int) : Option (Bool) :=
  ((S_spec_SetOf F p1_l).bind fun r6 => ((S_spec_IsGraph F p0_g_Size p0_g_Rows).bind fun r11 => (if r11 = true then (if r6.2 = true then ((S_spec_IsSet F p0_g_Size p0_g_Rows r6.1).bind fun r12 => S_spec_l4Distinct_j1 F r12) else S_spec_l4Distinct_j1 F false) else S_spec_l4Distinct_j1 F false)))

def S_spec_l2Edge (F : Nat) (p0_g_Size : Int) (p0_g_Rows : List Int) (p1_v : Int) (p2_w : Int) : Option (Bool) :=
  ((idxL p0_g_Rows p1_v).bind fun x6 => ((nnO p2_w).bind fun _ => some ((bAnd (shR x6 p2_w) 1) == 1)))

def S_spec_IsClaw_j1 (F : Nat) (p24 : Bool) : Option (Bool) :=
  some p24

def S_spec_IsClaw (F : Nat) (p0_g_Size : Int) (p0_g_Rows : List Int) (p1_l : List Int) : Option (Bool) :=
  (if ((p1_l.length : Int) == 4) = true then ((S_spec_l4Distinct F p0_g_Size p0_g_Rows p1_l).bind fun r25 => (if r25 = true then ((idxL p1_l 0).bind fun x26 => ((idxL p1_l 1).bind fun x27 => ((S_spec_l2Edge F p0_g_Size p0_g_Rows x26 x27).bind fun r28 => (if r28 = true then ((idxL p1_l 0).bind fun x29 => ((idxL p1_l 2).bind fun x30 => ((S_spec_l2Edge F p0_g_Size p0_g_Rows x29 x30).bind fun r31 => (if r31 = true then ((idxL p1_l 0).bind fun x32 => ((idxL p1_l 3).bind fun x33 => ((S_spec_l2Edge F p0_g_Size p0_g_Rows x32 x33).bind fun r34 => (if r34 = true then ((idxL p1_l 1).bind fun x35 => ((idxL p1_l 2).bind fun x36 => ((S_spec_l2Edge F p0_g_Size p0_g_Rows x35 x36).bind fun r37 => (if (!r37) = true then ((idxL p1_l 1).bind fun x38 => ((idxL p1_l 3).bind fun x39 => ((S_spec_l2Edge F p0_g_Size p0_g_Rows x38 x39).bind fun r40 => (if (!r40) = true then ((idxL p1_l 2).bind fun x41 => ((idxL p1_l 3).bind fun x42 => ((S_spec_l2Edge F p0_g_Size p0_g_Rows x41 x42).bind fun r43 => S_spec_IsClaw_j1 F (!r43)))) else S_spec_IsClaw_j1 F false)))) else S_spec_IsClaw_j1 F false)))) else S_spec_IsClaw_j1 F false)))) else S_spec_IsClaw_j1 F false)))) else S_spec_IsClaw_j1 F false)))) else S_spec_IsClaw_j1 F false)) else S_spec_IsClaw_j1 F false)

def S_spec_IsTwoEdges_j1 (F : Nat) (p24 : Bool) : Option (Bool) :=
  some p24

def S_spec_IsTwoEdges (F : Nat) (p0_g_Size : Int) (p0_g_Rows : List Int) (p1_l : List Int) : Option (Bool) :=
  (if ((p1_l.length : Int) == 4) = true then ((S_spec_l4Distinct F p0_g_Size p0_g_Rows p1_l).bind fun r25 => (if r25 = true then ((idxL p1_l 0).bind fun x26 => ((idxL p1_l 1).bind fun x27 => ((S_spec_l2Edge F p0_g_Size p0_g_Rows x26 x27).bind fun r28 => (if r28 = true then ((idxL p1_l 2).bind fun x29 => ((idxL p1_l 3).bind fun x30 => ((S_spec_l2Edge F p0_g_Size p0_g_Rows x29 x30).bind fun r31 => (if r31 = true then ((idxL p1_l 0).bind fun x32 => ((idxL p1_l 2).bind fun x33 => ((S_spec_l2Edge F p0_g_Size p0_g_Rows x32 x33).bind fun r34 => (if (!r34) = true then ((idxL p1_l 0).bind fun x35 => ((idxL p1_l 3).bind fun x36 => ((S_spec_l2Edge F p0_g_Size p0_g_Rows x35 x36).bind fun r37 => (if (!r37) = true then ((idxL p1_l 1).bind fun x38 => ((idxL p1_l 2).bind fun x39 => ((S_spec_l2Edge F p0_g_Size p0_g_Rows x38 x39).bind fun r40 => (if (!r40) = true then ((idxL p1_l 1).bind fun x41 => ((idxL p1_l 3).bind fun x42 => ((S_spec_l2Edge F p0_g_Size p0_g_Rows x41 x42).bind fun r43 => S_spec_IsTwoEdges_j1 F (!r43)))) else S_spec_IsTwoEdges_j1 F false)))) else S_spec_IsTwoEdges_j1 F false)))) else S_spec_IsTwoEdges_j1 F false)))) else S_spec_IsTwoEdges_j1 F false)))) else S_spec_IsTwoEdges_j1 F false)))) else S_spec_IsTwoEdges_j1 F false)) else S_spec_IsTwoEdges_j1 F false)

def S_spec_l4Four_j1 (F : Nat) : Option ((List (Int)) × Bool) :=
  some (([] : List (Int)), false)

def S_spec_l4Four_j4 (F : Nat) (p0_g_Size : Int) (x83 : Int) (p150 : Bool) : Option ((Int) ⊕ (Unit ⊕ ((List (Int)) × Bool))) :=
  (if p150 = true then some (Sum.inr (Sum.inr (([(IntKind.i64.wrap (x83.tdiv (IntKind.i64.wrap ((IntKind.i64.wrap (p0_g_Size * p0_g_Size)) * p0_g_Size)))), ((IntKind.i64.wrap (x83.tdiv (IntKind.i64.wrap (p0_g_Size * p0_g_Size)))).tmod p0_g_Size), ((IntKind.i64.wrap (x83.tdiv p0_g_Size)).tmod p0_g_Size), (x83.tmod p0_g_Size)] : List (Int)), true))) else some (Sum.inl (IntKind.i64.wrap (x83 + 1))))

def S_spec_l4Four_j3 (F : Nat) (p0_g_Size : Int) (p0_g_Rows : List Int) (p1_kind : Int) (x83 : Int) (p127 : Bool) : Option ((Int) ⊕ (Unit ⊕ ((List (Int)) × Bool))) :=
  (if p127 = true then ((nzO (IntKind.i64.wrap ((IntKind.i64.wrap (p0_g_Size * p0_g_Size)) * p0_g_Size))).bind fun _ => ((nzO (IntKind.i64.wrap (p0_g_Size * p0_g_Size))).bind fun _ => ((nzO p0_g_Size).bind fun _ => ((nzO p0_g_Size).bind fun _ => ((nzO p0_g_Size).bind fun _ => ((nzO p0_g_Size).bind fun _ => (if (p1_kind == 0) = true then ((S_spec_IsTwoEdges F p0_g_Size p0_g_Rows ([(IntKind.i64.wrap (x83.tdiv (IntKind.i64.wrap ((IntKind.i64.wrap (p0_g_Size * p0_g_Size)) * p0_g_Size)))), ((IntKind.i64.wrap (x83.tdiv (IntKind.i64.wrap (p0_g_Size * p0_g_Size)))).tmod p0_g_Size), ((IntKind.i64.wrap (x83.tdiv p0_g_Size)).tmod p0_g_Size), (x83.tmod p0_g_Size)] : List (Int))).bind fun r152 => (if r152 = true then S_spec_l4Four_j4 F p0_g_Size x83 true else (if (p1_kind == 1) = true then ((S_spec_IsClaw F p0_g_Size p0_g_Rows ([(IntKind.i64.wrap (x83.tdiv (IntKind.i64.wrap ((IntKind.i64.wrap (p0_g_Size * p0_g_Size)) * p0_g_Size)))), ((IntKind.i64.wrap (x83.tdiv (IntKind.i64.wrap (p0_g_Size * p0_g_Size)))).tmod p0_g_Size), ((IntKind.i64.wrap (x83.tdiv p0_g_Size)).tmod p0_g_Size), (x83.tmod p0_g_Size)] : List (Int))).bind fun r153 => S_spec_l4Four_j4 F p0_g_Size x83 r153) else S_spec_l4Four_j4 F p0_g_Size x83 false))) else (if (p1_kind == 1) = true then ((S_spec_IsClaw F p0_g_Size p0_g_Rows ([(IntKind.i64.wrap (x83.tdiv (IntKind.i64.wrap ((IntKind.i64.wrap (p0_g_Size * p0_g_Size)) * p0_g_Size)))), ((IntKind.i64.wrap (x83.tdiv (IntKind.i64.wrap (p0_g_Size * p0_g_Size)))).tmod p0_g_Size), ((IntKind.i64.wrap (x83.tdiv p0_g_Size)).tmod p0_g_Size), (x83.tmod p0_g_Size)] : List (Int))).bind fun r154 => S_spec_l4Four_j4 F p0_g_Size x83 r154) else S_spec_l4Four_j4 F p0_g_Size x83 false)))))))) else some (Sum.inr (Sum.inl ())))

def S_spec_l4Four_l2 (F : Nat) (p0_g_Size : Int) (p0_g_Rows : List Int) (p1_kind : Int) (x83 : Int) : Option ((Int) ⊕ (Unit ⊕ ((List (Int)) × Bool))) :=
  ((S_spec_IsGraph F p0_g_Size p0_g_Rows).bind fun r155 => (if r155 = true then S_spec_l4Four_j3 F p0_g_Size p0_g_Rows p1_kind x83 (decide (x83 < (IntKind.i64.wrap ((IntKind.i64.wrap ((IntKind.i64.wrap (p0_g_Size * p0_g_Size)) * p0_g_Size)) * p0_g_Size)))) else S_spec_l4Four_j3 F p0_g_Size p0_g_Rows p1_kind x83 false))

def S_spec_l4Four (F : Nat) (p0_g_Size : Int) (p0_g_Rows : List Int) (p1_kind : Int) : Option ((List (Int)) × Bool) :=
  (loopN (σ := Int) (β := (Unit ⊕ ((List (Int)) × Bool))) (fun s => S_spec_l4Four_l2 F p0_g_Size p0_g_Rows p1_kind s) F 0).bind (fun b => (match b with | .inl o => S_spec_l4Four_j1 F | .inr o => some o))

def S_spec_FindClaw (F : Nat) (p0_g_Size : Int) (p0_g_Rows : List Int) : Option ((List (Int)) × Bool) :=
  ((S_spec_l4Four F p0_g_Size p0_g_Rows 1).bind fun r7 => some (r7.1, r7.2))

def S_laws_toIntS_j1 (F : Nat) (l34 : List Int) : Option ((List (Int))) :=
  some l34

def S_laws_toIntS_l2 (F : Nat) (p0_a : List Int) (l46 : List Int) (x47 : Int) : Option (((List Int) × Int) ⊕ (((List Int)))) :=
  (if (decide (x47 < (p0_a.length : Int))) = true then ((idxL p0_a x47).bind fun x62 => ((idxL l46 x47).bind fun x63 => some (Sum.inl ((l46.set (x47.toNat) x62), (IntKind.i64.wrap (x47 + 1)))))) else some (Sum.inr l46))

def S_laws_toIntS (F : Nat) (p0_a : List Int) : Option ((List (Int))) :=
  ((mkO (p0_a.length : Int)).bind fun _ => (loopN (σ := ((List Int) × Int)) (β := (((List Int)))) (fun s => S_laws_toIntS_l2 F p0_a s.1 s.2) F ((List.replicate (p0_a.length : Int).toNat (0 : Int)), 0)).bind (fun b => S_laws_toIntS_j1 F b))

def S_laws_toGraph (F : Nat) (p0_a_Size : Int) (p0_a_Rows : List Int) : Option (Int × (List (Int))) :=
  ((S_laws_toIntS F p0_a_Rows).bind fun r13 => some (p0_a_Size, r13))

def S_slices_Index_int_j1 (F : Nat) : Option (Int) :=
  some (-1)

def S_slices_Index_int_l2 (F : Nat) (p0_s : List Int) (p1_v : Int) (x33 : Int) : Option ((Int) ⊕ (Unit ⊕ Int)) :=
  (if (decide (x33 < (p0_s.length : Int))) = true then ((idxL p0_s x33).bind fun x58 => (if (p1_v == x58) = true then some (Sum.inr (Sum.inr x33)) else some (Sum.inl (IntKind.i64.wrap (x33 + 1))))) else some (Sum.inr (Sum.inl ())))

def S_slices_Index_int (F : Nat) (p0_s : List Int) (p1_v : Int) : Option (Int) :=
  (loopN (σ := Int) (β := (Unit ⊕ Int)) (fun s => S_slices_Index_int_l2 F p0_s p1_v s) F 0).bind (fun b => (match b with | .inl o => S_slices_Index_int_j1 F | .inr o => some o))

def S_slices_Contains_int (F : Nat) (p0_s : List Int) (p1_v : Int) : Option (Bool) :=
  ((S_slices_Index_int F p0_s p1_v).bind fun r4 => some (decide ((0 : Int) ≤ r4)))

def S_impl_has (F : Nat) (p0_set : Int) (p1_v : Int) : Option (Bool) :=
  ((nnO p1_v).bind fun _ => some ((bAnd (shR p0_set p1_v) 1) == 1))

def S_impl_within_j1 (F : Nat) (p3 : Bool) : Option (Bool) :=
  some p3

def S_impl_within (F : Nat) (p0_n : Int) (p1_low : Int) (p2_high : Int) : Option (Bool) :=
  (if (decide (p1_low ≤ p0_n)) = true then S_impl_within_j1 F (decide (p0_n ≤ p2_high)) else S_impl_within_j1 F false)

def S_impl_IsGraph_j3 (F : Nat) : Option (Bool) :=
  some true

def S_impl_IsGraph_j5 (F : Nat) (x262 : Int) : Option ((Int) ⊕ (Unit ⊕ Bool)) :=
  some (Sum.inl (IntKind.i64.wrap (x262 + 1)))

def S_impl_IsGraph_l6 (F : Nat) (p0_g_Rows : List Int) (x262 : Int) (x412 : Int) (x414 : Int) : Option ((Int) ⊕ (Unit ⊕ Bool)) :=
  (if (decide (x414 < x262)) = true then ((idxL p0_g_Rows x414).bind fun x453 => ((S_impl_has F x412 x414).bind fun r454 => ((S_impl_has F x453 x262).bind fun r455 => (if (r454 != r455) = true then some (Sum.inr (Sum.inr false)) else some (Sum.inl (IntKind.i64.wrap (x414 + 1))))))) else some (Sum.inr (Sum.inl ())))

def S_impl_IsGraph_l4 (F : Nat) (p0_g_Rows : List Int) (x262 : Int) : Option ((Int) ⊕ (Unit ⊕ Bool)) :=
  (if (decide (x262 < (p0_g_Rows.length : Int))) = true then ((idxL p0_g_Rows x262).bind fun x412 => (loopN (σ := Int) (β := (Unit ⊕ Bool)) (fun s => S_impl_IsGraph_l6 F p0_g_Rows x262 x412 s) F 0).bind (fun b => (match b with | .inl o => S_impl_IsGraph_j5 F x262 | .inr o => some (Sum.inr (Sum.inr o))))) else some (Sum.inr (Sum.inl ())))

def S_impl_IsGraph_j2 (F : Nat) (p0_g_Rows : List Int) : Option (Bool) :=
  (loopN (σ := Int) (β := (Unit ⊕ Bool)) (fun s => S_impl_IsGraph_l4 F p0_g_Rows s) F 0).bind (fun b => (match b with | .inl o => S_impl_IsGraph_j3 F | .inr o => some o))

def S_impl_IsGraph_j8 (F : Nat) (x458 : Int) (p501 : Bool) : Option ((Int) ⊕ (Unit ⊕ Bool)) :=
  (if p501 = true then some (Sum.inr (Sum.inr false)) else some (Sum.inl (IntKind.i64.wrap (x458 + 1))))

def S_impl_IsGraph_l7 (F : Nat) (p0_g_Size : Int) (p0_g_Rows : List Int) (x458 : Int) : Option ((Int) ⊕ (Unit ⊕ Bool)) :=
  (if (decide (x458 < (p0_g_Rows.length : Int))) = true then ((idxL p0_g_Rows x458).bind fun x497 => ((nnO p0_g_Size).bind fun _ => ((S_impl_within F x497 0 (IntKind.i64.wrap ((shL 1 p0_g_Size) - 1))).bind fun r503 => (if (!r503) = true then S_impl_IsGraph_j8 F x458 true else ((S_impl_has F x497 x458).bind fun r504 => S_impl_IsGraph_j8 F x458 r504))))) else some (Sum.inr (Sum.inl ())))

def S_impl_IsGraph_j1 (F : Nat) (p0_g_Size : Int) (p0_g_Rows : List Int) (p12 : Bool) : Option (Bool) :=
  (if p12 = true then some false else (loopN (σ := Int) (β := (Unit ⊕ Bool)) (fun s => S_impl_IsGraph_l7 F p0_g_Size p0_g_Rows s) F 0).bind (fun b => (match b with | .inl o => S_impl_IsGraph_j2 F p0_g_Rows | .inr o => some o)))

def S_impl_IsGraph (F : Nat) (p0_g_Size : Int) (p0_g_Rows : List Int) : Option (Bool) :=
  ((S_impl_within F p0_g_Size 1 7).bind fun r505 => (if (!r505) = true then S_impl_IsGraph_j1 F p0_g_Size p0_g_Rows true else S_impl_IsGraph_j1 F p0_g_Size p0_g_Rows ((p0_g_Rows.length : Int) != p0_g_Size)))

def S_impl_areVertices_j1 (F : Nat) (p0_g_Size : Int) (p0_g_Rows : List Int) : Option (Bool) :=
  ((S_impl_IsGraph F p0_g_Size p0_g_Rows).bind fun r63 => some r63)

def S_impl_areVertices_j3 (F : Nat) (x65 : Int) (p115 : Bool) : Option ((Int) ⊕ (Unit ⊕ Bool)) :=
  (if p115 = true then some (Sum.inr (Sum.inr false)) else some (Sum.inl (IntKind.i64.wrap (x65 + 1))))

def S_impl_areVertices_l2 (F : Nat) (p0_g_Size : Int) (p1_l : List Int) (x65 : Int) : Option ((Int) ⊕ (Unit ⊕ Bool)) :=
  (if (decide (x65 < (p1_l.length : Int))) = true then ((idxL p1_l x65).bind fun x110 => ((S_impl_within F x110 0 (IntKind.i64.wrap (p0_g_Size - 1))).bind fun r117 => (if (!r117) = true then S_impl_areVertices_j3 F x65 true else ((slO p1_l.length x65).bind fun _ => ((S_slices_Contains_int F (p1_l.take (x65.toNat)) x110).bind fun r119 => S_impl_areVertices_j3 F x65 r119))))) else some (Sum.inr (Sum.inl ())))

def S_impl_areVertices (F : Nat) (p0_g_Size : Int) (p0_g_Rows : List Int) (p1_l : List Int) : Option (Bool) :=
  (loopN (σ := Int) (β := (Unit ⊕ Bool)) (fun s => S_impl_areVertices_l2 F p0_g_Size p1_l s) F 0).bind (fun b => (match b with | .inl o => S_impl_areVertices_j1 F p0_g_Size p0_g_Rows | .inr o => some o))

def S_impl_IsClaw_c1 (F : Nat) (p0_i : Int) (p1_k : Int) : Option (Bool) :=
  some (p0_i == 0)

def S_impl_areJoined__IsClawc1_j1 (F : Nat) : Option (Bool) :=
  some true

def S_impl_areJoined__IsClawc1_j3 (F : Nat) (x268 : Int) : Option ((Int) ⊕ (Unit ⊕ Bool)) :=
  some (Sum.inl (IntKind.i64.wrap (x268 + 1)))

def S_impl_areJoined__IsClawc1_l4 (F : Nat) (p0_g_Rows : List Int) (p1_l : List Int) (x268 : Int) (x460 : Int) : Option ((Int) ⊕ (Unit ⊕ Bool)) :=
  (if (decide (x460 < x268)) = true then ((idxL p1_l x460).bind fun x513 => ((idxL p0_g_Rows x513).bind fun x514 => ((idxL p1_l x268).bind fun x515 => ((S_impl_has F x514 x515).bind fun r516 => ((S_impl_IsClaw_c1 F x460 x268).bind fun r517 => (if (r516 != r517) = true then some (Sum.inr (Sum.inr false)) else some (Sum.inl (IntKind.i64.wrap (x460 + 1))))))))) else some (Sum.inr (Sum.inl ())))

def S_impl_areJoined__IsClawc1_l2 (F : Nat) (p0_g_Rows : List Int) (p1_l : List Int) (x268 : Int) : Option ((Int) ⊕ (Unit ⊕ Bool)) :=
  (if (decide (x268 < (p1_l.length : Int))) = true then (loopN (σ := Int) (β := (Unit ⊕ Bool)) (fun s => S_impl_areJoined__IsClawc1_l4 F p0_g_Rows p1_l x268 s) F 0).bind (fun b => (match b with | .inl o => S_impl_areJoined__IsClawc1_j3 F x268 | .inr o => some (Sum.inr (Sum.inr o)))) else some (Sum.inr (Sum.inl ())))

def S_impl_areJoined__IsClawc1 (F : Nat) (p0_g_Size : Int) (p0_g_Rows : List Int) (p1_l : List Int) : Option (Bool) :=
  ((S_impl_areVertices F p0_g_Size p0_g_Rows p1_l).bind fun r11 => (if (!r11) = true then some false else (loopN (σ := Int) (β := (Unit ⊕ Bool)) (fun s => S_impl_areJoined__IsClawc1_l2 F p0_g_Rows p1_l s) F 0).bind (fun b => (match b with | .inl o => S_impl_areJoined__IsClawc1_j1 F | .inr o => some o))))

def S_impl_IsClaw_j1 (F : Nat) (p6 : Bool) : Option (Bool) :=
  some p6

def S_impl_IsClaw (F : Nat) (p0_g_Size : Int) (p0_g_Rows : List Int) (p1_l : List Int) : Option (Bool) :=
  (if ((p1_l.length : Int) == 4) = true then ((S_impl_areJoined__IsClawc1 F p0_g_Size p0_g_Rows p1_l).bind fun r7 => S_impl_IsClaw_j1 F r7) else S_impl_IsClaw_j1 F false)

def S_impl_FindClaw_c1 (F : Nat) (p0_l : List Int) (q0_Size : Int) (q0_Rows : List Int) : Option (Bool) :=
  ((S_impl_IsClaw F q0_Size q0_Rows p0_l).bind fun r4 => some r4)

def S_slices_Clone_int (F : Nat) (p0_s : List Int) : Option ((List (Int))) :=
  ((neO p0_s.length).bind fun _ => ((catO ([] : List (Int)).length p0_s.length).bind fun _ => some (([] : List (Int)) ++ p0_s)))

def S_impl_always (F : Nat) (p0_l : List Int) : Option (Bool) :=
  some true

def S_impl_firstList_c1__FindClawc1__always__firstListc1_j1 (F : Nat) : Option ((Option (List Int))) :=
  some none

def S_impl_firstList_c1__FindClawc1__always__firstListc1_j3 (F : Nat) (x148 : Int) : Option ((Int) ⊕ (Unit ⊕ ((Option (List Int))))) :=
  some (Sum.inl (IntKind.i64.wrap (x148 + 1)))

def S_impl_firstList_c1__FindClawc1__always__firstListc1_j4 (F : Nat) (p0_l : List Int) (q0_v : Int) (q1_v_c0_Size : Int) (q1_v_c0_Rows : List Int) (q2_Size : Int) (q2_Rows : List Int) (slf : (List Int) → Int → Int → (List Int) → Int → (List Int) → Option ((Option (List Int)))) (x148 : Int) (p238 : Bool) : Option ((Int) ⊕ (Unit ⊕ ((Option (List Int))))) :=
  (if p238 = true then ((slf (p0_l.take ((p0_l.length : Int).toNat) ++ ([x148] : List (Int))) q0_v q1_v_c0_Size q1_v_c0_Rows q2_Size q2_Rows).bind fun r243 => (match r243 with | none => S_impl_firstList_c1__FindClawc1__always__firstListc1_j3 F x148 | some c245 => ((neO c245.length).bind fun _ => some (Sum.inr (Sum.inr (some c245)))))) else S_impl_firstList_c1__FindClawc1__always__firstListc1_j3 F x148)

def S_impl_firstList_c1__FindClawc1__always__firstListc1_l2 (F : Nat) (p0_l : List Int) (q0_v : Int) (q1_v_c0_Size : Int) (q1_v_c0_Rows : List Int) (q2_Size : Int) (q2_Rows : List Int) (slf : (List Int) → Int → Int → (List Int) → Int → (List Int) → Option ((Option (List Int)))) (x148 : Int) : Option ((Int) ⊕ (Unit ⊕ ((Option (List Int))))) :=
  (if (decide (x148 < q2_Size)) = true then ((slO p0_l.length (p0_l.length : Int)).bind fun _ => ((catO (p0_l.take ((p0_l.length : Int).toNat)).length ([x148] : List (Int)).length).bind fun _ => ((S_slices_Contains_int F p0_l x148).bind fun r249 => (if (!r249) = true then ((S_impl_always F (p0_l.take ((p0_l.length : Int).toNat) ++ ([x148] : List (Int)))).bind fun r250 => S_impl_firstList_c1__FindClawc1__always__firstListc1_j4 F p0_l q0_v q1_v_c0_Size q1_v_c0_Rows q2_Size q2_Rows slf x148 r250) else S_impl_firstList_c1__FindClawc1__always__firstListc1_j4 F p0_l q0_v q1_v_c0_Size q1_v_c0_Rows q2_Size q2_Rows slf x148 false)))) else some (Sum.inr (Sum.inl ())))

def S_impl_firstList_c1__FindClawc1__always__firstListc1_b (F : Nat) (slf : (List Int) → Int → Int → (List Int) → Int → (List Int) → Option ((Option (List Int)))) (p0_l : List Int) (q0_v : Int) (q1_v_c0_Size : Int) (q1_v_c0_Rows : List Int) (q2_Size : Int) (q2_Rows : List Int) : Option ((Option (List Int))) :=
  (if ((p0_l.length : Int) == q0_v) = true then ((S_impl_FindClaw_c1 F p0_l q1_v_c0_Size q1_v_c0_Rows).bind fun r34 => (if r34 = true then ((S_slices_Clone_int F p0_l).bind fun r38 => some (some r38)) else some none)) else (loopN (σ := Int) (β := (Unit ⊕ ((Option (List Int))))) (fun s => S_impl_firstList_c1__FindClawc1__always__firstListc1_l2 F p0_l q0_v q1_v_c0_Size q1_v_c0_Rows q2_Size q2_Rows slf s) F 0).bind (fun b => (match b with | .inl o => S_impl_firstList_c1__FindClawc1__always__firstListc1_j1 F | .inr o => some o)))

def S_impl_firstList_c1__FindClawc1__always__firstListc1_d (F : Nat) : Nat → (List Int) → Int → Int → (List Int) → Int → (List Int) → Option ((Option (List Int)))
  | 0, _, _, _, _, _, _ => none
  | D + 1, p0_l, q0_v, q1_v_c0_Size, q1_v_c0_Rows, q2_Size, q2_Rows => S_impl_firstList_c1__FindClawc1__always__firstListc1_b F (S_impl_firstList_c1__FindClawc1__always__firstListc1_d F D) p0_l q0_v q1_v_c0_Size q1_v_c0_Rows q2_Size q2_Rows

def S_impl_firstList_c1__FindClawc1__always__firstListc1 (F : Nat) (p0_l : List Int) (q0_v : Int) (q1_v_c0_Size : Int) (q1_v_c0_Rows : List Int) (q2_Size : Int) (q2_Rows : List Int) : Option ((Option (List Int))) :=
  S_impl_firstList_c1__FindClawc1__always__firstListc1_d F F p0_l q0_v q1_v_c0_Size q1_v_c0_Rows q2_Size q2_Rows

def S_impl_firstList__always__FindClawc1 (F : Nat) (p0_g_Size : Int) (p0_g_Rows : List Int) (p1_n : Int) (p3_holds_c0_Size : Int) (p3_holds_c0_Rows : List Int) : Option ((List (Int)) × Bool) :=
  ((S_impl_IsGraph F p0_g_Size p0_g_Rows).bind fun r21 => (if (!r21) = true then some (([] : List (Int)), false) else ((S_impl_firstList_c1__FindClawc1__always__firstListc1 F ([] : List (Int)) p1_n p3_holds_c0_Size p3_holds_c0_Rows p0_g_Size p0_g_Rows).bind fun r27 => (match r27 with | none => some (([] : List (Int)), false) | some c29 => ((neO c29.length).bind fun _ => some (c29, true))))))

def S_impl_FindClaw (F : Nat) (p0_g_Size : Int) (p0_g_Rows : List Int) : Option ((List (Int)) × Bool) :=
  ((S_impl_firstList__always__FindClawc1 F p0_g_Size p0_g_Rows 4 p0_g_Size p0_g_Rows).bind fun r7 => some (r7.1, r7.2))

def S_laws_eqIntS_j1 (F : Nat) : Option (Bool) :=
  some true

def S_laws_eqIntS_l2 (F : Nat) (p0_a : List Int) (p1_b : List Int) (x44 : Int) : Option ((Int) ⊕ (Unit ⊕ Bool)) :=
  (if (decide (x44 < (p0_a.length : Int))) = true then ((idxL p0_a x44).bind fun x74 => ((idxL p1_b x44).bind fun x75 => (if (x74 != x75) = true then some (Sum.inr (Sum.inr false)) else some (Sum.inl (IntKind.i64.wrap (x44 + 1)))))) else some (Sum.inr (Sum.inl ())))

def S_laws_eqIntS (F : Nat) (p0_a : List Int) (p1_b : List Int) : Option (Bool) :=
  (if ((p0_a.length : Int) != (p1_b.length : Int)) = true then some false else (loopN (σ := Int) (β := (Unit ⊕ Bool)) (fun s => S_laws_eqIntS_l2 F p0_a p1_b s) F 0).bind (fun b => (match b with | .inl o => S_laws_eqIntS_j1 F | .inr o => some o)))

def S_laws_eqGraph (F : Nat) (p0_a_Size : Int) (p0_a_Rows : List Int) (p1_b_Size : Int) (p1_b_Rows : List Int) : Option (Bool) :=
  (if (p0_a_Size != p1_b_Size) = true then some false else ((S_laws_eqIntS F p0_a_Rows p1_b_Rows).bind fun r18 => (if (!r18) = true then some false else some true)))

def S_laws_markIntS_j1 (F : Nat) (x39 : Int) (l40 : List Int) : Option (Int × (List (Int))) :=
  some (x39, l40)

def S_laws_markIntS_l2 (F : Nat) (l55 : List Int) (x56 : Int) (x57 : Int) : Option (((List Int) × Int × Int) ⊕ ((Int × (List Int)))) :=
  (if (decide (x57 < (l55.length : Int))) = true then ((idxL l55 x57).bind fun x77 => some (Sum.inl ((l55.set (x57.toNat) x56), (IntKind.i64.wrap (x56 + 1)), (IntKind.i64.wrap (x57 + 1))))) else some (Sum.inr (x56, l55)))

def S_laws_markIntS (F : Nat) (p0_a : List Int) (p1_k : Int) : Option (Int × (List (Int))) :=
  (loopN (σ := ((List Int) × Int × Int)) (β := ((Int × (List Int)))) (fun s => S_laws_markIntS_l2 F s.1 s.2.1 s.2.2) F (p0_a, p1_k, 0)).bind (fun b => S_laws_markIntS_j1 F b.1 b.2)

def S_laws_markGraph (F : Nat) (p0_a_Size : Int) (p0_a_Rows : List Int) (p1_k : Int) : Option (Int × (List (Int))) :=
  ((S_laws_markIntS F p0_a_Rows p1_k).bind fun r6 => some (r6.1, r6.2))

def S_laws_heldIntS_j1 (F : Nat) (x50 : Int) : Option (Int) :=
  some x50

def S_laws_heldIntS_l2 (F : Nat) (p0_a : List Int) (x53 : Int) (x54 : Int) : Option ((Int × Int) ⊕ (Int ⊕ Int)) :=
  (if (decide (x54 < (p0_a.length : Int))) = true then ((idxL p0_a x54).bind fun x97 => (if (x97 != x53) = true then some (Sum.inr (Sum.inr (-1))) else some (Sum.inl ((IntKind.i64.wrap (x53 + 1)), (IntKind.i64.wrap (x54 + 1)))))) else some (Sum.inr (Sum.inl x53)))

def S_laws_heldIntS (F : Nat) (p0_a : List Int) (p1_k : Int) : Option (Int) :=
  (loopN (σ := (Int × Int)) (β := (Int ⊕ Int)) (fun s => S_laws_heldIntS_l2 F p0_a s.1 s.2) F (p1_k, 0)).bind (fun b => (match b with | .inl o => S_laws_heldIntS_j1 F o | .inr o => some o))

def S_laws_szIntS (F : Nat) (p0_a : List Int) (p1_left : Int) : Option (Int) :=
  (if (decide ((IntKind.i64.wrap (p1_left - (p0_a.length : Int))) < 0)) = true then some (-1) else some (IntKind.i64.wrap (p1_left - (p0_a.length : Int))))

def S_laws_szGraph (F : Nat) (p0_a_Size : Int) (p0_a_Rows : List Int) (p1_left : Int) : Option (Int) :=
  ((S_laws_szIntS F p0_a_Rows p1_left).bind fun r6 => (if (decide (r6 < 0)) = true then some (-1) else some r6))

def S_laws_FnExactFindClaw_j3 (F : Nat) (r78 : Int × (List (Int))) (p110 : Bool) : Option (Bool) :=
  (if p110 = true then some false else ((S_laws_heldIntS F r78.2 1).bind fun r115 => (if (decide (r115 < 0)) = true then some false else (if (r115 != r78.1) = true then some false else some true))))

def S_laws_FnExactFindClaw_j2 (F : Nat) (p0_aG_Size : Int) (p0_aG_Rows : List Int) (r20 : (List (Int)) × Bool) (r32 : (List (Int)) × Bool) (p73 : Bool) : Option (Bool) :=
  (if p73 = true then some false else ((S_laws_markIntS F r32.1 1).bind fun r78 => ((S_laws_heldIntS F r78.2 1).bind fun r82 => (if (decide (r82 < 0)) = true then some false else (if (r82 != r78.1) = true then some false else ((S_laws_toGraph F p0_aG_Size p0_aG_Rows).bind fun r98 => ((S_impl_FindClaw F r98.1 r98.2).bind fun r100 => ((S_laws_eqIntS F r100.1 r20.1).bind fun r127 => (if (!r127) = true then S_laws_FnExactFindClaw_j3 F r78 true else S_laws_FnExactFindClaw_j3 F r78 (r100.2 != r20.2))))))))))

def S_laws_FnExactFindClaw_j1 (F : Nat) (p0_aG_Size : Int) (p0_aG_Rows : List Int) (r20 : (List (Int)) × Bool) (r26 : Int × (List (Int))) (r32 : (List (Int)) × Bool) (p42 : Bool) : Option (Bool) :=
  (if p42 = true then some false else ((S_laws_toGraph F p0_aG_Size p0_aG_Rows).bind fun r57 => ((S_laws_eqGraph F r26.1 r26.2 r57.1 r57.2).bind fun r59 => (if (!r59) = true then some false else ((S_laws_markGraph F r26.1 r26.2 1).bind fun r64 => (if (decide (r64.1 < 0)) = true then S_laws_FnExactFindClaw_j2 F p0_aG_Size p0_aG_Rows r20 r32 true else ((S_laws_eqIntS F r32.1 r20.1).bind fun r128 => (if (!r128) = true then S_laws_FnExactFindClaw_j2 F p0_aG_Size p0_aG_Rows r20 r32 true else S_laws_FnExactFindClaw_j2 F p0_aG_Size p0_aG_Rows r20 r32 (r32.2 != r20.2)))))))))

def S_laws_FnExactFindClaw (F : Nat) (p0_aG_Size : Int) (p0_aG_Rows : List Int) : Option (Bool) :=
  ((S_laws_szGraph F p0_aG_Size p0_aG_Rows 1048576).bind fun r7 => (if (decide (r7 < 0)) = true then some true else ((S_laws_toGraph F p0_aG_Size p0_aG_Rows).bind fun r18 => ((S_spec_FindClaw F r18.1 r18.2).bind fun r20 => ((S_laws_toGraph F p0_aG_Size p0_aG_Rows).bind fun r26 => ((S_impl_FindClaw F r26.1 r26.2).bind fun r32 => ((S_laws_eqIntS F r32.1 r20.1).bind fun r129 => (if (!r129) = true then S_laws_FnExactFindClaw_j1 F p0_aG_Size p0_aG_Rows r20 r26 r32 true else S_laws_FnExactFindClaw_j1 F p0_aG_Size p0_aG_Rows r20 r26 r32 (r32.2 != r20.2)))))))))

def S_spec_FindTwoEdges (F : Nat) (p0_g_Size : Int) (p0_g_Rows : List Int) : Option ((List (Int)) × Bool) :=
  ((S_spec_l4Four F p0_g_Size p0_g_Rows 0).bind fun r7 => some (r7.1, r7.2))

def S_impl_IsTwoEdges_c1_j1 (F : Nat) (p3 : Bool) : Option (Bool) :=
  some p3

def S_impl_IsTwoEdges_c1 (F : Nat) (p0_i : Int) (p1_k : Int) : Option (Bool) :=
  (if (p0_i == 0) = true then (if (p1_k == 1) = true then S_impl_IsTwoEdges_c1_j1 F true else (if (p0_i == 2) = true then S_impl_IsTwoEdges_c1_j1 F (p1_k == 3) else S_impl_IsTwoEdges_c1_j1 F false)) else (if (p0_i == 2) = true then S_impl_IsTwoEdges_c1_j1 F (p1_k == 3) else S_impl_IsTwoEdges_c1_j1 F false))

def S_impl_areJoined__IsTwoEdgesc1_j1 (F : Nat) : Option (Bool) :=
  some true

def S_impl_areJoined__IsTwoEdgesc1_j3 (F : Nat) (x268 : Int) : Option ((Int) ⊕ (Unit ⊕ Bool)) :=
  some (Sum.inl (IntKind.i64.wrap (x268 + 1)))

def S_impl_areJoined__IsTwoEdgesc1_l4 (F : Nat) (p0_g_Rows : List Int) (p1_l : List Int) (x268 : Int) (x460 : Int) : Option ((Int) ⊕ (Unit ⊕ Bool)) :=
  (if (decide (x460 < x268)) = true then ((idxL p1_l x460).bind fun x513 => ((idxL p0_g_Rows x513).bind fun x514 => ((idxL p1_l x268).bind fun x515 => ((S_impl_has F x514 x515).bind fun r516 => ((S_impl_IsTwoEdges_c1 F x460 x268).bind fun r517 => (if (r516 != r517) = true then some (Sum.inr (Sum.inr false)) else some (Sum.inl (IntKind.i64.wrap (x460 + 1))))))))) else some (Sum.inr (Sum.inl ())))

def S_impl_areJoined__IsTwoEdgesc1_l2 (F : Nat) (p0_g_Rows : List Int) (p1_l : List Int) (x268 : Int) : Option ((Int) ⊕ (Unit ⊕ Bool)) :=
  (if (decide (x268 < (p1_l.length : Int))) = true then (loopN (σ := Int) (β := (Unit ⊕ Bool)) (fun s => S_impl_areJoined__IsTwoEdgesc1_l4 F p0_g_Rows p1_l x268 s) F 0).bind (fun b => (match b with | .inl o => S_impl_areJoined__IsTwoEdgesc1_j3 F x268 | .inr o => some (Sum.inr (Sum.inr o)))) else some (Sum.inr (Sum.inl ())))

def S_impl_areJoined__IsTwoEdgesc1 (F : Nat) (p0_g_Size : Int) (p0_g_Rows : List Int) (p1_l : List Int) : Option (Bool) :=
  ((S_impl_areVertices F p0_g_Size p0_g_Rows p1_l).bind fun r11 => (if (!r11) = true then some false else (loopN (σ := Int) (β := (Unit ⊕ Bool)) (fun s => S_impl_areJoined__IsTwoEdgesc1_l2 F p0_g_Rows p1_l s) F 0).bind (fun b => (match b with | .inl o => S_impl_areJoined__IsTwoEdgesc1_j1 F | .inr o => some o))))

def S_impl_IsTwoEdges_j1 (F : Nat) (p6 : Bool) : Option (Bool) :=
  some p6

def S_impl_IsTwoEdges (F : Nat) (p0_g_Size : Int) (p0_g_Rows : List Int) (p1_l : List Int) : Option (Bool) :=
  (if ((p1_l.length : Int) == 4) = true then ((S_impl_areJoined__IsTwoEdgesc1 F p0_g_Size p0_g_Rows p1_l).bind fun r7 => S_impl_IsTwoEdges_j1 F r7) else S_impl_IsTwoEdges_j1 F false)

def S_impl_FindTwoEdges_c1 (F : Nat) (p0_l : List Int) (q0_Size : Int) (q0_Rows : List Int) : Option (Bool) :=
  ((S_impl_IsTwoEdges F q0_Size q0_Rows p0_l).bind fun r4 => some r4)

def S_impl_firstList_c1__FindTwoEdgesc1__always__firstListc1_j1 (F : Nat) : Option ((Option (List Int))) :=
  some none

def S_impl_firstList_c1__FindTwoEdgesc1__always__firstListc1_j3 (F : Nat) (x148 : Int) : Option ((Int) ⊕ (Unit ⊕ ((Option (List Int))))) :=
  some (Sum.inl (IntKind.i64.wrap (x148 + 1)))

def S_impl_firstList_c1__FindTwoEdgesc1__always__firstListc1_j4 (F : Nat) (p0_l : List Int) (q0_v : Int) (q1_v_c0_Size : Int) (q1_v_c0_Rows : List Int) (q2_Size : Int) (q2_Rows : List Int) (slf : (List Int) → Int → Int → (List Int) → Int → (List Int) → Option ((Option (List Int)))) (x148 : Int) (p238 : Bool) : Option ((Int) ⊕ (Unit ⊕ ((Option (List Int))))) :=
  (if p238 = true then ((slf (p0_l.take ((p0_l.length : Int).toNat) ++ ([x148] : List (Int))) q0_v q1_v_c0_Size q1_v_c0_Rows q2_Size q2_Rows).bind fun r243 => (match r243 with | none => S_impl_firstList_c1__FindTwoEdgesc1__always__firstListc1_j3 F x148 | some c245 => ((neO c245.length).bind fun _ => some (Sum.inr (Sum.inr (some c245)))))) else S_impl_firstList_c1__FindTwoEdgesc1__always__firstListc1_j3 F x148)

def S_impl_firstList_c1__FindTwoEdgesc1__always__firstListc1_l2 (F : Nat) (p0_l : List Int) (q0_v : Int) (q1_v_c0_Size : Int) (q1_v_c0_Rows : List Int) (q2_Size : Int) (q2_Rows : List Int) (slf : (List Int) → Int → Int → (List Int) → Int → (List Int) → Option ((Option (List Int)))) (x148 : Int) : Option ((Int) ⊕ (Unit ⊕ ((Option (List Int))))) :=
  (if (decide (x148 < q2_Size)) = true then ((slO p0_l.length (p0_l.length : Int)).bind fun _ => ((catO (p0_l.take ((p0_l.length : Int).toNat)).length ([x148] : List (Int)).length).bind fun _ => ((S_slices_Contains_int F p0_l x148).bind fun r249 => (if (!r249) = true then ((S_impl_always F (p0_l.take ((p0_l.length : Int).toNat) ++ ([x148] : List (Int)))).bind fun r250 => S_impl_firstList_c1__FindTwoEdgesc1__always__firstListc1_j4 F p0_l q0_v q1_v_c0_Size q1_v_c0_Rows q2_Size q2_Rows slf x148 r250) else S_impl_firstList_c1__FindTwoEdgesc1__always__firstListc1_j4 F p0_l q0_v q1_v_c0_Size q1_v_c0_Rows q2_Size q2_Rows slf x148 false)))) else some (Sum.inr (Sum.inl ())))

def S_impl_firstList_c1__FindTwoEdgesc1__always__firstListc1_b (F : Nat) (slf : (List Int) → Int → Int → (List Int) → Int → (List Int) → Option ((Option (List Int)))) (p0_l : List Int) (q0_v : Int) (q1_v_c0_Size : Int) (q1_v_c0_Rows : List Int) (q2_Size : Int) (q2_Rows : List Int) : Option ((Option (List Int))) :=
  (if ((p0_l.length : Int) == q0_v) = true then ((S_impl_FindTwoEdges_c1 F p0_l q1_v_c0_Size q1_v_c0_Rows).bind fun r34 => (if r34 = true then ((S_slices_Clone_int F p0_l).bind fun r38 => some (some r38)) else some none)) else (loopN (σ := Int) (β := (Unit ⊕ ((Option (List Int))))) (fun s => S_impl_firstList_c1__FindTwoEdgesc1__always__firstListc1_l2 F p0_l q0_v q1_v_c0_Size q1_v_c0_Rows q2_Size q2_Rows slf s) F 0).bind (fun b => (match b with | .inl o => S_impl_firstList_c1__FindTwoEdgesc1__always__firstListc1_j1 F | .inr o => some o)))

def S_impl_firstList_c1__FindTwoEdgesc1__always__firstListc1_d (F : Nat) : Nat → (List Int) → Int → Int → (List Int) → Int → (List Int) → Option ((Option (List Int)))
  | 0, _, _, _, _, _, _ => none
  | D + 1, p0_l, q0_v, q1_v_c0_Size, q1_v_c0_Rows, q2_Size, q2_Rows => S_impl_firstList_c1__FindTwoEdgesc1__always__firstListc1_b F (S_impl_firstList_c1__FindTwoEdgesc1__always__firstListc1_d F D) p0_l q0_v q1_v_c0_Size q1_v_c0_Rows q2_Size q2_Rows

def S_impl_firstList_c1__FindTwoEdgesc1__always__firstListc1 (F : Nat) (p0_l : List Int) (q0_v : Int) (q1_v_c0_Size : Int) (q1_v_c0_Rows : List Int) (q2_Size : Int) (q2_Rows : List Int) : Option ((Option (List Int))) :=
  S_impl_firstList_c1__FindTwoEdgesc1__always__firstListc1_d F F p0_l q0_v q1_v_c0_Size q1_v_c0_Rows q2_Size q2_Rows

def S_impl_firstList__always__FindTwoEdgesc1 (F : Nat) (p0_g_Size : Int) (p0_g_Rows : List Int) (p1_n : Int) (p3_holds_c0_Size : Int) (p3_holds_c0_Rows : List Int) : Option ((List (Int)) × Bool) :=
  ((S_impl_IsGraph F p0_g_Size p0_g_Rows).bind fun r21 => (if (!r21) = true then some (([] : List (Int)), false) else ((S_impl_firstList_c1__FindTwoEdgesc1__always__firstListc1 F ([] : List (Int)) p1_n p3_holds_c0_Size p3_holds_c0_Rows p0_g_Size p0_g_Rows).bind fun r27 => (match r27 with | none => some (([] : List (Int)), false) | some c29 => ((neO c29.length).bind fun _ => some (c29, true))))))

def S_impl_FindTwoEdges (F : Nat) (p0_g_Size : Int) (p0_g_Rows : List Int) : Option ((List (Int)) × Bool) :=
  ((S_impl_firstList__always__FindTwoEdgesc1 F p0_g_Size p0_g_Rows 4 p0_g_Size p0_g_Rows).bind fun r7 => some (r7.1, r7.2))

def S_laws_FnExactFindTwoEdges_j3 (F : Nat) (r78 : Int × (List (Int))) (p110 : Bool) : Option (Bool) :=
  (if p110 = true then some false else ((S_laws_heldIntS F r78.2 1).bind fun r115 => (if (decide (r115 < 0)) = true then some false else (if (r115 != r78.1) = true then some false else some true))))

def S_laws_FnExactFindTwoEdges_j2 (F : Nat) (p0_aG_Size : Int) (p0_aG_Rows : List Int) (r20 : (List (Int)) × Bool) (r32 : (List (Int)) × Bool) (p73 : Bool) : Option (Bool) :=
  (if p73 = true then some false else ((S_laws_markIntS F r32.1 1).bind fun r78 => ((S_laws_heldIntS F r78.2 1).bind fun r82 => (if (decide (r82 < 0)) = true then some false else (if (r82 != r78.1) = true then some false else ((S_laws_toGraph F p0_aG_Size p0_aG_Rows).bind fun r98 => ((S_impl_FindTwoEdges F r98.1 r98.2).bind fun r100 => ((S_laws_eqIntS F r100.1 r20.1).bind fun r127 => (if (!r127) = true then S_laws_FnExactFindTwoEdges_j3 F r78 true else S_laws_FnExactFindTwoEdges_j3 F r78 (r100.2 != r20.2))))))))))

def S_laws_FnExactFindTwoEdges_j1 (F : Nat) (p0_aG_Size : Int) (p0_aG_Rows : List Int) (r20 : (List (Int)) × Bool) (r26 : Int × (List (Int))) (r32 : (List (Int)) × Bool) (p42 : Bool) : Option (Bool) :=
  (if p42 = true then some false else ((S_laws_toGraph F p0_aG_Size p0_aG_Rows).bind fun r57 => ((S_laws_eqGraph F r26.1 r26.2 r57.1 r57.2).bind fun r59 => (if (!r59) = true then some false else ((S_laws_markGraph F r26.1 r26.2 1).bind fun r64 => (if (decide (r64.1 < 0)) = true then S_laws_FnExactFindTwoEdges_j2 F p0_aG_Size p0_aG_Rows r20 r32 true else ((S_laws_eqIntS F r32.1 r20.1).bind fun r128 => (if (!r128) = true then S_laws_FnExactFindTwoEdges_j2 F p0_aG_Size p0_aG_Rows r20 r32 true else S_laws_FnExactFindTwoEdges_j2 F p0_aG_Size p0_aG_Rows r20 r32 (r32.2 != r20.2)))))))))

def S_laws_FnExactFindTwoEdges (F : Nat) (p0_aG_Size : Int) (p0_aG_Rows : List Int) : Option (Bool) :=
  ((S_laws_szGraph F p0_aG_Size p0_aG_Rows 1048576).bind fun r7 => (if (decide (r7 < 0)) = true then some true else ((S_laws_toGraph F p0_aG_Size p0_aG_Rows).bind fun r18 => ((S_spec_FindTwoEdges F r18.1 r18.2).bind fun r20 => ((S_laws_toGraph F p0_aG_Size p0_aG_Rows).bind fun r26 => ((S_impl_FindTwoEdges F r26.1 r26.2).bind fun r32 => ((S_laws_eqIntS F r32.1 r20.1).bind fun r129 => (if (!r129) = true then S_laws_FnExactFindTwoEdges_j1 F p0_aG_Size p0_aG_Rows r20 r26 r32 true else S_laws_FnExactFindTwoEdges_j1 F p0_aG_Size p0_aG_Rows r20 r26 r32 (r32.2 != r20.2)))))))))

def S_spec_IsInducedPath_j2 (F : Nat) : Option (Bool) :=
  some true

def S_spec_IsInducedPath_j4 (F : Nat) (x195 : Int) : Option ((Int) ⊕ (Unit ⊕ Bool)) :=
  some (Sum.inl (IntKind.i64.wrap (x195 + 1)))

def S_spec_IsInducedPath_l5 (F : Nat) (p0_g_Size : Int) (p0_g_Rows : List Int) (p1_l : List Int) (x195 : Int) (x331 : Int) : Option ((Int) ⊕ (Unit ⊕ Bool)) :=
  (if (decide (x331 < x195)) = true then ((idxL p1_l x195).bind fun x368 => ((idxL p1_l x331).bind fun x369 => ((S_spec_l2Edge F p0_g_Size p0_g_Rows x368 x369).bind fun r370 => (if (r370 != (x331 == (IntKind.i64.wrap (x195 - 1)))) = true then some (Sum.inr (Sum.inr false)) else some (Sum.inl (IntKind.i64.wrap (x331 + 1))))))) else some (Sum.inr (Sum.inl ())))

def S_spec_IsInducedPath_l3 (F : Nat) (p0_g_Size : Int) (p0_g_Rows : List Int) (p1_l : List Int) (x195 : Int) : Option ((Int) ⊕ (Unit ⊕ Bool)) :=
  (if (decide (x195 < (p1_l.length : Int))) = true then (loopN (σ := Int) (β := (Unit ⊕ Bool)) (fun s => S_spec_IsInducedPath_l5 F p0_g_Size p0_g_Rows p1_l x195 s) F 0).bind (fun b => (match b with | .inl o => S_spec_IsInducedPath_j4 F x195 | .inr o => some (Sum.inr (Sum.inr o)))) else some (Sum.inr (Sum.inl ())))

def S_spec_IsInducedPath_j1 (F : Nat) (p0_g_Size : Int) (p0_g_Rows : List Int) (p1_l : List Int) (p12 : Bool) : Option (Bool) :=
  (if p12 = true then some false else (loopN (σ := Int) (β := (Unit ⊕ Bool)) (fun s => S_spec_IsInducedPath_l3 F p0_g_Size p0_g_Rows p1_l s) F 0).bind (fun b => (match b with | .inl o => S_spec_IsInducedPath_j2 F | .inr o => some o)))

def S_spec_IsInducedPath (F : Nat) (p0_g_Size : Int) (p0_g_Rows : List Int) (p1_l : List Int) : Option (Bool) :=
  ((S_spec_l4Distinct F p0_g_Size p0_g_Rows p1_l).bind fun r372 => (if (!r372) = true then S_spec_IsInducedPath_j1 F p0_g_Size p0_g_Rows p1_l true else S_spec_IsInducedPath_j1 F p0_g_Size p0_g_Rows p1_l ((p1_l.length : Int) == 0)))

def S_spec_IsHole_j2 (F : Nat) : Option (Bool) :=
  some true

def S_spec_IsHole_j4 (F : Nat) (x211 : Int) : Option ((Int) ⊕ (Unit ⊕ Bool)) :=
  some (Sum.inl (IntKind.i64.wrap (x211 + 1)))

def S_spec_IsHole_j6 (F : Nat) (x359 : Int) (p399 : Bool) : Option ((Int) ⊕ (Unit ⊕ Bool)) :=
  (if p399 = true then some (Sum.inr (Sum.inr false)) else some (Sum.inl (IntKind.i64.wrap (x359 + 1))))

def S_spec_IsHole_l5 (F : Nat) (p0_g_Size : Int) (p0_g_Rows : List Int) (p1_l : List Int) (x211 : Int) (x359 : Int) : Option ((Int) ⊕ (Unit ⊕ Bool)) :=
  (if (decide (x359 < x211)) = true then ((idxL p1_l x211).bind fun x401 => ((idxL p1_l x359).bind fun x402 => ((S_spec_l2Edge F p0_g_Size p0_g_Rows x401 x402).bind fun r403 => (if (x359 == (IntKind.i64.wrap (x211 - 1))) = true then S_spec_IsHole_j6 F x359 (r403 != true) else (if (x359 == 0) = true then S_spec_IsHole_j6 F x359 (r403 != (x211 == (IntKind.i64.wrap ((p1_l.length : Int) - 1)))) else S_spec_IsHole_j6 F x359 (r403 != false)))))) else some (Sum.inr (Sum.inl ())))

def S_spec_IsHole_l3 (F : Nat) (p0_g_Size : Int) (p0_g_Rows : List Int) (p1_l : List Int) (x211 : Int) : Option ((Int) ⊕ (Unit ⊕ Bool)) :=
  (if (decide (x211 < (p1_l.length : Int))) = true then (loopN (σ := Int) (β := (Unit ⊕ Bool)) (fun s => S_spec_IsHole_l5 F p0_g_Size p0_g_Rows p1_l x211 s) F 0).bind (fun b => (match b with | .inl o => S_spec_IsHole_j4 F x211 | .inr o => some (Sum.inr (Sum.inr o)))) else some (Sum.inr (Sum.inl ())))

def S_spec_IsHole_j1 (F : Nat) (p0_g_Size : Int) (p0_g_Rows : List Int) (p1_l : List Int) (p12 : Bool) : Option (Bool) :=
  (if p12 = true then some false else (loopN (σ := Int) (β := (Unit ⊕ Bool)) (fun s => S_spec_IsHole_l3 F p0_g_Size p0_g_Rows p1_l s) F 0).bind (fun b => (match b with | .inl o => S_spec_IsHole_j2 F | .inr o => some o)))

def S_spec_IsHole (F : Nat) (p0_g_Size : Int) (p0_g_Rows : List Int) (p1_l : List Int) : Option (Bool) :=
  ((S_spec_l4Distinct F p0_g_Size p0_g_Rows p1_l).bind fun r404 => (if (!r404) = true then S_spec_IsHole_j1 F p0_g_Size p0_g_Rows p1_l true else S_spec_IsHole_j1 F p0_g_Size p0_g_Rows p1_l (decide ((p1_l.length : Int) < 4))))

def S_spec_l4Search_j1 (F : Nat) : Option ((List (Int)) × Bool) :=
  some (([] : List (Int)), false)

def S_spec_l4Search_j3 (F : Nat) (x130 : Int) : Option ((Int) ⊕ (Unit ⊕ ((List (Int)) × Bool))) :=
  some (Sum.inl (IntKind.i64.wrap (x130 + 1)))

def S_spec_l4Search_j4 (F : Nat) (p0_g_Size : Int) (p0_g_Rows : List Int) (p1_l : List Int) (p2_n : Int) (p3_closed : Bool) (slf : Int → (List Int) → (List Int) → Int → Bool → Option ((List (Int)) × Bool)) (x130 : Int) (p217 : Bool) : Option ((Int) ⊕ (Unit ⊕ ((List (Int)) × Bool))) :=
  (if p217 = true then ((slf p0_g_Size p0_g_Rows ((([] : List (Int)) ++ p1_l) ++ ([x130] : List (Int))) p2_n p3_closed).bind fun r221 => (if r221.2 = true then some (Sum.inr (Sum.inr (r221.1, true))) else S_spec_l4Search_j3 F x130)) else S_spec_l4Search_j3 F x130)

def S_spec_l4Search_l2 (F : Nat) (p0_g_Size : Int) (p0_g_Rows : List Int) (p1_l : List Int) (p2_n : Int) (p3_closed : Bool) (slf : Int → (List Int) → (List Int) → Int → Bool → Option ((List (Int)) × Bool)) (x130 : Int) : Option ((Int) ⊕ (Unit ⊕ ((List (Int)) × Bool))) :=
  (if (decide (x130 < p0_g_Size)) = true then ((catO ([] : List (Int)).length p1_l.length).bind fun _ => ((catO (([] : List (Int)) ++ p1_l).length ([x130] : List (Int)).length).bind fun _ => ((S_spec_IsInducedPath F p0_g_Size p0_g_Rows ((([] : List (Int)) ++ p1_l) ++ ([x130] : List (Int)))).bind fun r225 => (if r225 = true then S_spec_l4Search_j4 F p0_g_Size p0_g_Rows p1_l p2_n p3_closed slf x130 true else (if p3_closed = true then (if ((((([] : List (Int)) ++ p1_l) ++ ([x130] : List (Int))).length : Int) == p2_n) = true then ((S_spec_IsHole F p0_g_Size p0_g_Rows ((([] : List (Int)) ++ p1_l) ++ ([x130] : List (Int)))).bind fun r226 => S_spec_l4Search_j4 F p0_g_Size p0_g_Rows p1_l p2_n p3_closed slf x130 r226) else S_spec_l4Search_j4 F p0_g_Size p0_g_Rows p1_l p2_n p3_closed slf x130 false) else S_spec_l4Search_j4 F p0_g_Size p0_g_Rows p1_l p2_n p3_closed slf x130 false))))) else some (Sum.inr (Sum.inl ())))

def S_spec_l4Search_b (F : Nat) (slf : Int → (List Int) → (List Int) → Int → Bool → Option ((List (Int)) × Bool)) (p0_g_Size : Int) (p0_g_Rows : List Int) (p1_l : List Int) (p2_n : Int) (p3_closed : Bool) : Option ((List (Int)) × Bool) :=
  (if ((p1_l.length : Int) == p2_n) = true then (if p3_closed = true then ((S_spec_IsHole F p0_g_Size p0_g_Rows p1_l).bind fun r25 => some (p1_l, r25)) else some (p1_l, true)) else (loopN (σ := Int) (β := (Unit ⊕ ((List (Int)) × Bool))) (fun s => S_spec_l4Search_l2 F p0_g_Size p0_g_Rows p1_l p2_n p3_closed slf s) F 0).bind (fun b => (match b with | .inl o => S_spec_l4Search_j1 F | .inr o => some o)))

def S_spec_l4Search_d (F : Nat) : Nat → Int → (List Int) → (List Int) → Int → Bool → Option ((List (Int)) × Bool)
  | 0, _, _, _, _, _ => none
  | D + 1, p0_g_Size, p0_g_Rows, p1_l, p2_n, p3_closed => S_spec_l4Search_b F (S_spec_l4Search_d F D) p0_g_Size p0_g_Rows p1_l p2_n p3_closed

def S_spec_l4Search (F : Nat) (p0_g_Size : Int) (p0_g_Rows : List Int) (p1_l : List Int) (p2_n : Int) (p3_closed : Bool) : Option ((List (Int)) × Bool) :=
  S_spec_l4Search_d F F p0_g_Size p0_g_Rows p1_l p2_n p3_closed

def S_spec_FindInducedPath_j1 (F : Nat) (p0_g_Size : Int) (p0_g_Rows : List Int) (p1_n : Int) (p17 : Bool) : Option ((List (Int)) × Bool) :=
  (if p17 = true then some (([] : List (Int)), false) else ((S_spec_l4Search F p0_g_Size p0_g_Rows ([] : List (Int)) p1_n false).bind fun r26 => some (r26.1, r26.2)))

def S_spec_FindInducedPath (F : Nat) (p0_g_Size : Int) (p0_g_Rows : List Int) (p1_n : Int) : Option ((List (Int)) × Bool) :=
  ((S_spec_IsGraph F p0_g_Size p0_g_Rows).bind fun r29 => (if (!r29) = true then S_spec_FindInducedPath_j1 F p0_g_Size p0_g_Rows p1_n true else ((S_spec_l1In F p1_n 1 p0_g_Size).bind fun r30 => S_spec_FindInducedPath_j1 F p0_g_Size p0_g_Rows p1_n (!r30))))

def S_impl_IsInducedPath_c1 (F : Nat) (p0_i : Int) (p1_k : Int) : Option (Bool) :=
  some (p1_k == (IntKind.i64.wrap (p0_i + 1)))

def S_impl_areJoined__IsInducedPathc1_j1 (F : Nat) : Option (Bool) :=
  some true

def S_impl_areJoined__IsInducedPathc1_j3 (F : Nat) (x268 : Int) : Option ((Int) ⊕ (Unit ⊕ Bool)) :=
  some (Sum.inl (IntKind.i64.wrap (x268 + 1)))

def S_impl_areJoined__IsInducedPathc1_l4 (F : Nat) (p0_g_Rows : List Int) (p1_l : List Int) (x268 : Int) (x460 : Int) : Option ((Int) ⊕ (Unit ⊕ Bool)) :=
  (if (decide (x460 < x268)) = true then ((idxL p1_l x460).bind fun x513 => ((idxL p0_g_Rows x513).bind fun x514 => ((idxL p1_l x268).bind fun x515 => ((S_impl_has F x514 x515).bind fun r516 => ((S_impl_IsInducedPath_c1 F x460 x268).bind fun r517 => (if (r516 != r517) = true then some (Sum.inr (Sum.inr false)) else some (Sum.inl (IntKind.i64.wrap (x460 + 1))))))))) else some (Sum.inr (Sum.inl ())))

def S_impl_areJoined__IsInducedPathc1_l2 (F : Nat) (p0_g_Rows : List Int) (p1_l : List Int) (x268 : Int) : Option ((Int) ⊕ (Unit ⊕ Bool)) :=
  (if (decide (x268 < (p1_l.length : Int))) = true then (loopN (σ := Int) (β := (Unit ⊕ Bool)) (fun s => S_impl_areJoined__IsInducedPathc1_l4 F p0_g_Rows p1_l x268 s) F 0).bind (fun b => (match b with | .inl o => S_impl_areJoined__IsInducedPathc1_j3 F x268 | .inr o => some (Sum.inr (Sum.inr o)))) else some (Sum.inr (Sum.inl ())))

def S_impl_areJoined__IsInducedPathc1 (F : Nat) (p0_g_Size : Int) (p0_g_Rows : List Int) (p1_l : List Int) : Option (Bool) :=
  ((S_impl_areVertices F p0_g_Size p0_g_Rows p1_l).bind fun r11 => (if (!r11) = true then some false else (loopN (σ := Int) (β := (Unit ⊕ Bool)) (fun s => S_impl_areJoined__IsInducedPathc1_l2 F p0_g_Rows p1_l s) F 0).bind (fun b => (match b with | .inl o => S_impl_areJoined__IsInducedPathc1_j1 F | .inr o => some o))))

def S_impl_IsInducedPath_j1 (F : Nat) (p6 : Bool) : Option (Bool) :=
  some p6

def S_impl_IsInducedPath (F : Nat) (p0_g_Size : Int) (p0_g_Rows : List Int) (p1_l : List Int) : Option (Bool) :=
  (if (decide ((0 : Int) < (p1_l.length : Int))) = true then ((S_impl_areJoined__IsInducedPathc1 F p0_g_Size p0_g_Rows p1_l).bind fun r7 => S_impl_IsInducedPath_j1 F r7) else S_impl_IsInducedPath_j1 F false)

def S_impl_FindInducedPath_c1 (F : Nat) (p0_l : List Int) (q0_Size : Int) (q0_Rows : List Int) : Option (Bool) :=
  ((S_impl_IsInducedPath F q0_Size q0_Rows p0_l).bind fun r4 => some r4)

def S_impl_firstList_c1__always__FindInducedPathc1__firstListc1_j1 (F : Nat) : Option ((Option (List Int))) :=
  some none

def S_impl_firstList_c1__always__FindInducedPathc1__firstListc1_j3 (F : Nat) (x148 : Int) : Option ((Int) ⊕ (Unit ⊕ ((Option (List Int))))) :=
  some (Sum.inl (IntKind.i64.wrap (x148 + 1)))

def S_impl_firstList_c1__always__FindInducedPathc1__firstListc1_j4 (F : Nat) (p0_l : List Int) (q0_v : Int) (q2_Size : Int) (q2_Rows : List Int) (q3_v_c0_Size : Int) (q3_v_c0_Rows : List Int) (slf : (List Int) → Int → Int → (List Int) → Int → (List Int) → Option ((Option (List Int)))) (x148 : Int) (p238 : Bool) : Option ((Int) ⊕ (Unit ⊕ ((Option (List Int))))) :=
  (if p238 = true then ((slf (p0_l.take ((p0_l.length : Int).toNat) ++ ([x148] : List (Int))) q0_v q2_Size q2_Rows q3_v_c0_Size q3_v_c0_Rows).bind fun r243 => (match r243 with | none => S_impl_firstList_c1__always__FindInducedPathc1__firstListc1_j3 F x148 | some c245 => ((neO c245.length).bind fun _ => some (Sum.inr (Sum.inr (some c245)))))) else S_impl_firstList_c1__always__FindInducedPathc1__firstListc1_j3 F x148)

def S_impl_firstList_c1__always__FindInducedPathc1__firstListc1_l2 (F : Nat) (p0_l : List Int) (q0_v : Int) (q2_Size : Int) (q2_Rows : List Int) (q3_v_c0_Size : Int) (q3_v_c0_Rows : List Int) (slf : (List Int) → Int → Int → (List Int) → Int → (List Int) → Option ((Option (List Int)))) (x148 : Int) : Option ((Int) ⊕ (Unit ⊕ ((Option (List Int))))) :=
  (if (decide (x148 < q2_Size)) = true then ((slO p0_l.length (p0_l.length : Int)).bind fun _ => ((catO (p0_l.take ((p0_l.length : Int).toNat)).length ([x148] : List (Int)).length).bind fun _ => ((S_slices_Contains_int F p0_l x148).bind fun r249 => (if (!r249) = true then ((S_impl_FindInducedPath_c1 F (p0_l.take ((p0_l.length : Int).toNat) ++ ([x148] : List (Int))) q3_v_c0_Size q3_v_c0_Rows).bind fun r250 => S_impl_firstList_c1__always__FindInducedPathc1__firstListc1_j4 F p0_l q0_v q2_Size q2_Rows q3_v_c0_Size q3_v_c0_Rows slf x148 r250) else S_impl_firstList_c1__always__FindInducedPathc1__firstListc1_j4 F p0_l q0_v q2_Size q2_Rows q3_v_c0_Size q3_v_c0_Rows slf x148 false)))) else some (Sum.inr (Sum.inl ())))

def S_impl_firstList_c1__always__FindInducedPathc1__firstListc1_b (F : Nat) (slf : (List Int) → Int → Int → (List Int) → Int → (List Int) → Option ((Option (List Int)))) (p0_l : List Int) (q0_v : Int) (q2_Size : Int) (q2_Rows : List Int) (q3_v_c0_Size : Int) (q3_v_c0_Rows : List Int) : Option ((Option (List Int))) :=
  (if ((p0_l.length : Int) == q0_v) = true then ((S_impl_always F p0_l).bind fun r34 => (if r34 = true then ((S_slices_Clone_int F p0_l).bind fun r38 => some (some r38)) else some none)) else (loopN (σ := Int) (β := (Unit ⊕ ((Option (List Int))))) (fun s => S_impl_firstList_c1__always__FindInducedPathc1__firstListc1_l2 F p0_l q0_v q2_Size q2_Rows q3_v_c0_Size q3_v_c0_Rows slf s) F 0).bind (fun b => (match b with | .inl o => S_impl_firstList_c1__always__FindInducedPathc1__firstListc1_j1 F | .inr o => some o)))

def S_impl_firstList_c1__always__FindInducedPathc1__firstListc1_d (F : Nat) : Nat → (List Int) → Int → Int → (List Int) → Int → (List Int) → Option ((Option (List Int)))
  | 0, _, _, _, _, _, _ => none
  | D + 1, p0_l, q0_v, q2_Size, q2_Rows, q3_v_c0_Size, q3_v_c0_Rows => S_impl_firstList_c1__always__FindInducedPathc1__firstListc1_b F (S_impl_firstList_c1__always__FindInducedPathc1__firstListc1_d F D) p0_l q0_v q2_Size q2_Rows q3_v_c0_Size q3_v_c0_Rows

def S_impl_firstList_c1__always__FindInducedPathc1__firstListc1 (F : Nat) (p0_l : List Int) (q0_v : Int) (q2_Size : Int) (q2_Rows : List Int) (q3_v_c0_Size : Int) (q3_v_c0_Rows : List Int) : Option ((Option (List Int))) :=
  S_impl_firstList_c1__always__FindInducedPathc1__firstListc1_d F F p0_l q0_v q2_Size q2_Rows q3_v_c0_Size q3_v_c0_Rows

def S_impl_firstList__FindInducedPathc1__always (F : Nat) (p0_g_Size : Int) (p0_g_Rows : List Int) (p1_n : Int) (p2_may_c0_Size : Int) (p2_may_c0_Rows : List Int) : Option ((List (Int)) × Bool) :=
  ((S_impl_IsGraph F p0_g_Size p0_g_Rows).bind fun r21 => (if (!r21) = true then some (([] : List (Int)), false) else ((S_impl_firstList_c1__always__FindInducedPathc1__firstListc1 F ([] : List (Int)) p1_n p0_g_Size p0_g_Rows p2_may_c0_Size p2_may_c0_Rows).bind fun r27 => (match r27 with | none => some (([] : List (Int)), false) | some c29 => ((neO c29.length).bind fun _ => some (c29, true))))))

def S_impl_FindInducedPath (F : Nat) (p0_g_Size : Int) (p0_g_Rows : List Int) (p1_n : Int) : Option ((List (Int)) × Bool) :=
  ((S_impl_within F p1_n 1 p0_g_Size).bind fun r11 => (if (!r11) = true then some (([] : List (Int)), false) else ((S_impl_firstList__FindInducedPathc1__always F p0_g_Size p0_g_Rows p1_n p0_g_Size p0_g_Rows).bind fun r16 => some (r16.1, r16.2))))

def S_laws_FnExactFindInducedPath_j3 (F : Nat) (r78 : Int × (List (Int))) (p110 : Bool) : Option (Bool) :=
  (if p110 = true then some false else ((S_laws_heldIntS F r78.2 1).bind fun r115 => (if (decide (r115 < 0)) = true then some false else (if (r115 != r78.1) = true then some false else some true))))

def S_laws_FnExactFindInducedPath_j2 (F : Nat) (p0_aG_Size : Int) (p0_aG_Rows : List Int) (p1_aN : Int) (r20 : (List (Int)) × Bool) (r32 : (List (Int)) × Bool) (p73 : Bool) : Option (Bool) :=
  (if p73 = true then some false else ((S_laws_markIntS F r32.1 1).bind fun r78 => ((S_laws_heldIntS F r78.2 1).bind fun r82 => (if (decide (r82 < 0)) = true then some false else (if (r82 != r78.1) = true then some false else ((S_laws_toGraph F p0_aG_Size p0_aG_Rows).bind fun r98 => ((S_impl_FindInducedPath F r98.1 r98.2 p1_aN).bind fun r100 => ((S_laws_eqIntS F r100.1 r20.1).bind fun r127 => (if (!r127) = true then S_laws_FnExactFindInducedPath_j3 F r78 true else S_laws_FnExactFindInducedPath_j3 F r78 (r100.2 != r20.2))))))))))

def S_laws_FnExactFindInducedPath_j1 (F : Nat) (p0_aG_Size : Int) (p0_aG_Rows : List Int) (p1_aN : Int) (r20 : (List (Int)) × Bool) (r26 : Int × (List (Int))) (r32 : (List (Int)) × Bool) (p42 : Bool) : Option (Bool) :=
  (if p42 = true then some false else ((S_laws_toGraph F p0_aG_Size p0_aG_Rows).bind fun r57 => ((S_laws_eqGraph F r26.1 r26.2 r57.1 r57.2).bind fun r59 => (if (!r59) = true then some false else ((S_laws_markGraph F r26.1 r26.2 1).bind fun r64 => (if (decide (r64.1 < 0)) = true then S_laws_FnExactFindInducedPath_j2 F p0_aG_Size p0_aG_Rows p1_aN r20 r32 true else ((S_laws_eqIntS F r32.1 r20.1).bind fun r128 => (if (!r128) = true then S_laws_FnExactFindInducedPath_j2 F p0_aG_Size p0_aG_Rows p1_aN r20 r32 true else S_laws_FnExactFindInducedPath_j2 F p0_aG_Size p0_aG_Rows p1_aN r20 r32 (r32.2 != r20.2)))))))))

def S_laws_FnExactFindInducedPath (F : Nat) (p0_aG_Size : Int) (p0_aG_Rows : List Int) (p1_aN : Int) : Option (Bool) :=
  ((S_laws_szGraph F p0_aG_Size p0_aG_Rows 1048576).bind fun r7 => (if (decide (r7 < 0)) = true then some true else ((S_laws_toGraph F p0_aG_Size p0_aG_Rows).bind fun r18 => ((S_spec_FindInducedPath F r18.1 r18.2 p1_aN).bind fun r20 => ((S_laws_toGraph F p0_aG_Size p0_aG_Rows).bind fun r26 => ((S_impl_FindInducedPath F r26.1 r26.2 p1_aN).bind fun r32 => ((S_laws_eqIntS F r32.1 r20.1).bind fun r129 => (if (!r129) = true then S_laws_FnExactFindInducedPath_j1 F p0_aG_Size p0_aG_Rows p1_aN r20 r26 r32 true else S_laws_FnExactFindInducedPath_j1 F p0_aG_Size p0_aG_Rows p1_aN r20 r26 r32 (r32.2 != r20.2)))))))))

def S_spec_FindHole_j1 (F : Nat) : Option ((List (Int)) × Bool) :=
  some (([] : List (Int)), false)

def S_spec_FindHole_j3 (F : Nat) (p0_g_Size : Int) (p0_g_Rows : List Int) (x67 : Int) (p103 : Bool) : Option ((Int) ⊕ (Unit ⊕ ((List (Int)) × Bool))) :=
  (if p103 = true then ((S_spec_l4Search F p0_g_Size p0_g_Rows ([] : List (Int)) x67 true).bind fun r119 => (if r119.2 = true then some (Sum.inr (Sum.inr (r119.1, true))) else some (Sum.inl (IntKind.i64.wrap (x67 + 1))))) else some (Sum.inr (Sum.inl ())))

def S_spec_FindHole_l2 (F : Nat) (p0_g_Size : Int) (p0_g_Rows : List Int) (x67 : Int) : Option ((Int) ⊕ (Unit ⊕ ((List (Int)) × Bool))) :=
  (if (decide (x67 ≤ p0_g_Size)) = true then ((S_spec_IsGraph F p0_g_Size p0_g_Rows).bind fun r123 => S_spec_FindHole_j3 F p0_g_Size p0_g_Rows x67 r123) else S_spec_FindHole_j3 F p0_g_Size p0_g_Rows x67 false)

def S_spec_FindHole (F : Nat) (p0_g_Size : Int) (p0_g_Rows : List Int) : Option ((List (Int)) × Bool) :=
  (loopN (σ := Int) (β := (Unit ⊕ ((List (Int)) × Bool))) (fun s => S_spec_FindHole_l2 F p0_g_Size p0_g_Rows s) F 4).bind (fun b => (match b with | .inl o => S_spec_FindHole_j1 F | .inr o => some o))

def S_impl_FindHole_c1_j1 (F : Nat) (p4 : Bool) : Option (Bool) :=
  some p4

def S_impl_FindHole_c1 (F : Nat) (p0_l : List Int) (q0_v : Int) (q1_Size : Int) (q1_Rows : List Int) : Option (Bool) :=
  (if ((p0_l.length : Int) == q0_v) = true then S_impl_FindHole_c1_j1 F true else ((S_impl_IsInducedPath F q1_Size q1_Rows p0_l).bind fun r5 => S_impl_FindHole_c1_j1 F r5))

def S_impl_IsHole_c1_j1 (F : Nat) (p3 : Bool) : Option (Bool) :=
  some p3

def S_impl_IsHole_c1 (F : Nat) (p0_i : Int) (p1_k : Int) (q0_v : List Int) : Option (Bool) :=
  (if (p1_k == (IntKind.i64.wrap (p0_i + 1))) = true then S_impl_IsHole_c1_j1 F true else (if (p0_i == 0) = true then S_impl_IsHole_c1_j1 F (p1_k == (IntKind.i64.wrap ((q0_v.length : Int) - 1))) else S_impl_IsHole_c1_j1 F false))

def S_impl_areJoined__IsHolec1_j1 (F : Nat) : Option (Bool) :=
  some true

def S_impl_areJoined__IsHolec1_j3 (F : Nat) (x268 : Int) : Option ((Int) ⊕ (Unit ⊕ Bool)) :=
  some (Sum.inl (IntKind.i64.wrap (x268 + 1)))

def S_impl_areJoined__IsHolec1_l4 (F : Nat) (p0_g_Rows : List Int) (p1_l : List Int) (p2_joined_c0_v : List Int) (x268 : Int) (x460 : Int) : Option ((Int) ⊕ (Unit ⊕ Bool)) :=
  (if (decide (x460 < x268)) = true then ((idxL p1_l x460).bind fun x513 => ((idxL p0_g_Rows x513).bind fun x514 => ((idxL p1_l x268).bind fun x515 => ((S_impl_has F x514 x515).bind fun r516 => ((S_impl_IsHole_c1 F x460 x268 p2_joined_c0_v).bind fun r517 => (if (r516 != r517) = true then some (Sum.inr (Sum.inr false)) else some (Sum.inl (IntKind.i64.wrap (x460 + 1))))))))) else some (Sum.inr (Sum.inl ())))

def S_impl_areJoined__IsHolec1_l2 (F : Nat) (p0_g_Rows : List Int) (p1_l : List Int) (p2_joined_c0_v : List Int) (x268 : Int) : Option ((Int) ⊕ (Unit ⊕ Bool)) :=
  (if (decide (x268 < (p1_l.length : Int))) = true then (loopN (σ := Int) (β := (Unit ⊕ Bool)) (fun s => S_impl_areJoined__IsHolec1_l4 F p0_g_Rows p1_l p2_joined_c0_v x268 s) F 0).bind (fun b => (match b with | .inl o => S_impl_areJoined__IsHolec1_j3 F x268 | .inr o => some (Sum.inr (Sum.inr o)))) else some (Sum.inr (Sum.inl ())))

def S_impl_areJoined__IsHolec1 (F : Nat) (p0_g_Size : Int) (p0_g_Rows : List Int) (p1_l : List Int) (p2_joined_c0_v : List Int) : Option (Bool) :=
  ((S_impl_areVertices F p0_g_Size p0_g_Rows p1_l).bind fun r11 => (if (!r11) = true then some false else (loopN (σ := Int) (β := (Unit ⊕ Bool)) (fun s => S_impl_areJoined__IsHolec1_l2 F p0_g_Rows p1_l p2_joined_c0_v s) F 0).bind (fun b => (match b with | .inl o => S_impl_areJoined__IsHolec1_j1 F | .inr o => some o))))

def S_impl_IsHole_j1 (F : Nat) (p8 : Bool) : Option (Bool) :=
  some p8

def S_impl_IsHole (F : Nat) (p0_g_Size : Int) (p0_g_Rows : List Int) (p1_l : List Int) : Option (Bool) :=
  (if (decide ((4 : Int) ≤ (p1_l.length : Int))) = true then ((S_impl_areJoined__IsHolec1 F p0_g_Size p0_g_Rows p1_l p1_l).bind fun r9 => S_impl_IsHole_j1 F r9) else S_impl_IsHole_j1 F false)

def S_impl_FindHole_c2 (F : Nat) (p0_l : List Int) (q0_Size : Int) (q0_Rows : List Int) : Option (Bool) :=
  ((S_impl_IsHole F q0_Size q0_Rows p0_l).bind fun r4 => some r4)

def S_impl_firstList_c1__FindHolec2__FindHolec1__firstListc1_j1 (F : Nat) : Option ((Option (List Int))) :=
  some none

def S_impl_firstList_c1__FindHolec2__FindHolec1__firstListc1_j3 (F : Nat) (x148 : Int) : Option ((Int) ⊕ (Unit ⊕ ((Option (List Int))))) :=
  some (Sum.inl (IntKind.i64.wrap (x148 + 1)))

def S_impl_firstList_c1__FindHolec2__FindHolec1__firstListc1_j4 (F : Nat) (p0_l : List Int) (q0_v : Int) (q1_v_c0_Size : Int) (q1_v_c0_Rows : List Int) (q2_Size : Int) (q2_Rows : List Int) (q3_v_c0_v : Int) (slf : (List Int) → Int → Int → (List Int) → Int → (List Int) → Int → Option ((Option (List Int)))) (x148 : Int) (p238 : Bool) : Option ((Int) ⊕ (Unit ⊕ ((Option (List Int))))) :=
  (if p238 = true then ((slf (p0_l.take ((p0_l.length : Int).toNat) ++ ([x148] : List (Int))) q0_v q1_v_c0_Size q1_v_c0_Rows q2_Size q2_Rows q3_v_c0_v).bind fun r243 => (match r243 with | none => S_impl_firstList_c1__FindHolec2__FindHolec1__firstListc1_j3 F x148 | some c245 => ((neO c245.length).bind fun _ => some (Sum.inr (Sum.inr (some c245)))))) else S_impl_firstList_c1__FindHolec2__FindHolec1__firstListc1_j3 F x148)

def S_impl_firstList_c1__FindHolec2__FindHolec1__firstListc1_l2 (F : Nat) (p0_l : List Int) (q0_v : Int) (q1_v_c0_Size : Int) (q1_v_c0_Rows : List Int) (q2_Size : Int) (q2_Rows : List Int) (q3_v_c0_v : Int) (slf : (List Int) → Int → Int → (List Int) → Int → (List Int) → Int → Option ((Option (List Int)))) (x148 : Int) : Option ((Int) ⊕ (Unit ⊕ ((Option (List Int))))) :=
  (if (decide (x148 < q2_Size)) = true then ((slO p0_l.length (p0_l.length : Int)).bind fun _ => ((catO (p0_l.take ((p0_l.length : Int).toNat)).length ([x148] : List (Int)).length).bind fun _ => ((S_slices_Contains_int F p0_l x148).bind fun r249 => (if (!r249) = true then ((S_impl_FindHole_c1 F (p0_l.take ((p0_l.length : Int).toNat) ++ ([x148] : List (Int))) q3_v_c0_v q1_v_c0_Size q1_v_c0_Rows).bind fun r250 => S_impl_firstList_c1__FindHolec2__FindHolec1__firstListc1_j4 F p0_l q0_v q1_v_c0_Size q1_v_c0_Rows q2_Size q2_Rows q3_v_c0_v slf x148 r250) else S_impl_firstList_c1__FindHolec2__FindHolec1__firstListc1_j4 F p0_l q0_v q1_v_c0_Size q1_v_c0_Rows q2_Size q2_Rows q3_v_c0_v slf x148 false)))) else some (Sum.inr (Sum.inl ())))

def S_impl_firstList_c1__FindHolec2__FindHolec1__firstListc1_b (F : Nat) (slf : (List Int) → Int → Int → (List Int) → Int → (List Int) → Int → Option ((Option (List Int)))) (p0_l : List Int) (q0_v : Int) (q1_v_c0_Size : Int) (q1_v_c0_Rows : List Int) (q2_Size : Int) (q2_Rows : List Int) (q3_v_c0_v : Int) : Option ((Option (List Int))) :=
  (if ((p0_l.length : Int) == q0_v) = true then ((S_impl_FindHole_c2 F p0_l q1_v_c0_Size q1_v_c0_Rows).bind fun r34 => (if r34 = true then ((S_slices_Clone_int F p0_l).bind fun r38 => some (some r38)) else some none)) else (loopN (σ := Int) (β := (Unit ⊕ ((Option (List Int))))) (fun s => S_impl_firstList_c1__FindHolec2__FindHolec1__firstListc1_l2 F p0_l q0_v q1_v_c0_Size q1_v_c0_Rows q2_Size q2_Rows q3_v_c0_v slf s) F 0).bind (fun b => (match b with | .inl o => S_impl_firstList_c1__FindHolec2__FindHolec1__firstListc1_j1 F | .inr o => some o)))

def S_impl_firstList_c1__FindHolec2__FindHolec1__firstListc1_d (F : Nat) : Nat → (List Int) → Int → Int → (List Int) → Int → (List Int) → Int → Option ((Option (List Int)))
  | 0, _, _, _, _, _, _, _ => none
  | D + 1, p0_l, q0_v, q1_v_c0_Size, q1_v_c0_Rows, q2_Size, q2_Rows, q3_v_c0_v => S_impl_firstList_c1__FindHolec2__FindHolec1__firstListc1_b F (S_impl_firstList_c1__FindHolec2__FindHolec1__firstListc1_d F D) p0_l q0_v q1_v_c0_Size q1_v_c0_Rows q2_Size q2_Rows q3_v_c0_v

def S_impl_firstList_c1__FindHolec2__FindHolec1__firstListc1 (F : Nat) (p0_l : List Int) (q0_v : Int) (q1_v_c0_Size : Int) (q1_v_c0_Rows : List Int) (q2_Size : Int) (q2_Rows : List Int) (q3_v_c0_v : Int) : Option ((Option (List Int))) :=
  S_impl_firstList_c1__FindHolec2__FindHolec1__firstListc1_d F F p0_l q0_v q1_v_c0_Size q1_v_c0_Rows q2_Size q2_Rows q3_v_c0_v

def S_impl_firstList__FindHolec1__FindHolec2 (F : Nat) (p0_g_Size : Int) (p0_g_Rows : List Int) (p1_n : Int) (p2_may_c0_v : Int) (p2_may_c1_Size : Int) (p2_may_c1_Rows : List Int) : Option ((List (Int)) × Bool) :=
  ((S_impl_IsGraph F p0_g_Size p0_g_Rows).bind fun r21 => (if (!r21) = true then some (([] : List (Int)), false) else ((S_impl_firstList_c1__FindHolec2__FindHolec1__firstListc1 F ([] : List (Int)) p1_n p2_may_c1_Size p2_may_c1_Rows p0_g_Size p0_g_Rows p2_may_c0_v).bind fun r27 => (match r27 with | none => some (([] : List (Int)), false) | some c29 => ((neO c29.length).bind fun _ => some (c29, true))))))

def S_impl_FindHole_j1 (F : Nat) : Option ((List (Int)) × Bool) :=
  some (([] : List (Int)), false)

def S_impl_FindHole_l2 (F : Nat) (p0_g_Size : Int) (p0_g_Rows : List Int) (x115 : Int) : Option ((Int) ⊕ (Unit ⊕ ((List (Int)) × Bool))) :=
  (if (decide (x115 ≤ (if 7 < p0_g_Size then 7 else p0_g_Size))) = true then ((S_impl_firstList__FindHolec1__FindHolec2 F p0_g_Size p0_g_Rows x115 x115 p0_g_Size p0_g_Rows).bind fun r157 => (if r157.2 = true then some (Sum.inr (Sum.inr (r157.1, true))) else some (Sum.inl (IntKind.i64.wrap (x115 + 1))))) else some (Sum.inr (Sum.inl ())))

def S_impl_FindHole (F : Nat) (p0_g_Size : Int) (p0_g_Rows : List Int) : Option ((List (Int)) × Bool) :=
  (loopN (σ := Int) (β := (Unit ⊕ ((List (Int)) × Bool))) (fun s => S_impl_FindHole_l2 F p0_g_Size p0_g_Rows s) F 4).bind (fun b => (match b with | .inl o => S_impl_FindHole_j1 F | .inr o => some o))

def S_laws_FnExactFindHole_j3 (F : Nat) (r78 : Int × (List (Int))) (p110 : Bool) : Option (Bool) :=
  (if p110 = true then some false else ((S_laws_heldIntS F r78.2 1).bind fun r115 => (if (decide (r115 < 0)) = true then some false else (if (r115 != r78.1) = true then some false else some true))))

def S_laws_FnExactFindHole_j2 (F : Nat) (p0_aG_Size : Int) (p0_aG_Rows : List Int) (r20 : (List (Int)) × Bool) (r32 : (List (Int)) × Bool) (p73 : Bool) : Option (Bool) :=
  (if p73 = true then some false else ((S_laws_markIntS F r32.1 1).bind fun r78 => ((S_laws_heldIntS F r78.2 1).bind fun r82 => (if (decide (r82 < 0)) = true then some false else (if (r82 != r78.1) = true then some false else ((S_laws_toGraph F p0_aG_Size p0_aG_Rows).bind fun r98 => ((S_impl_FindHole F r98.1 r98.2).bind fun r100 => ((S_laws_eqIntS F r100.1 r20.1).bind fun r127 => (if (!r127) = true then S_laws_FnExactFindHole_j3 F r78 true else S_laws_FnExactFindHole_j3 F r78 (r100.2 != r20.2))))))))))

def S_laws_FnExactFindHole_j1 (F : Nat) (p0_aG_Size : Int) (p0_aG_Rows : List Int) (r20 : (List (Int)) × Bool) (r26 : Int × (List (Int))) (r32 : (List (Int)) × Bool) (p42 : Bool) : Option (Bool) :=
  (if p42 = true then some false else ((S_laws_toGraph F p0_aG_Size p0_aG_Rows).bind fun r57 => ((S_laws_eqGraph F r26.1 r26.2 r57.1 r57.2).bind fun r59 => (if (!r59) = true then some false else ((S_laws_markGraph F r26.1 r26.2 1).bind fun r64 => (if (decide (r64.1 < 0)) = true then S_laws_FnExactFindHole_j2 F p0_aG_Size p0_aG_Rows r20 r32 true else ((S_laws_eqIntS F r32.1 r20.1).bind fun r128 => (if (!r128) = true then S_laws_FnExactFindHole_j2 F p0_aG_Size p0_aG_Rows r20 r32 true else S_laws_FnExactFindHole_j2 F p0_aG_Size p0_aG_Rows r20 r32 (r32.2 != r20.2)))))))))

def S_laws_FnExactFindHole (F : Nat) (p0_aG_Size : Int) (p0_aG_Rows : List Int) : Option (Bool) :=
  ((S_laws_szGraph F p0_aG_Size p0_aG_Rows 1048576).bind fun r7 => (if (decide (r7 < 0)) = true then some true else ((S_laws_toGraph F p0_aG_Size p0_aG_Rows).bind fun r18 => ((S_spec_FindHole F r18.1 r18.2).bind fun r20 => ((S_laws_toGraph F p0_aG_Size p0_aG_Rows).bind fun r26 => ((S_impl_FindHole F r26.1 r26.2).bind fun r32 => ((S_laws_eqIntS F r32.1 r20.1).bind fun r129 => (if (!r129) = true then S_laws_FnExactFindHole_j1 F p0_aG_Size p0_aG_Rows r20 r26 r32 true else S_laws_FnExactFindHole_j1 F p0_aG_Size p0_aG_Rows r20 r26 r32 (r32.2 != r20.2)))))))))

def S_laws_big (F : Nat) (p0_code : List Int) : Option (Bool) :=
  some (decide ((1048576 : Int) < (p0_code.length : Int)))

def S_laws_sameInts_j1 (F : Nat) : Option (Bool) :=
  some true

def S_laws_sameInts_l2 (F : Nat) (p0_a : List Int) (p1_b : List Int) (x44 : Int) : Option ((Int) ⊕ (Unit ⊕ Bool)) :=
  (if (decide (x44 < (p0_a.length : Int))) = true then ((idxL p0_a x44).bind fun x74 => ((idxL p1_b x44).bind fun x75 => (if (x74 != x75) = true then some (Sum.inr (Sum.inr false)) else some (Sum.inl (IntKind.i64.wrap (x44 + 1)))))) else some (Sum.inr (Sum.inl ())))

def S_laws_sameInts (F : Nat) (p0_a : List Int) (p1_b : List Int) : Option (Bool) :=
  (if ((p0_a.length : Int) != (p1_b.length : Int)) = true then some false else (loopN (σ := Int) (β := (Unit ⊕ Bool)) (fun s => S_laws_sameInts_l2 F p0_a p1_b s) F 0).bind (fun b => (match b with | .inl o => S_laws_sameInts_j1 F | .inr o => some o)))

def S_slices_Min_int_j1 (F : Nat) (x24 : Int) : Option (Int) :=
  some x24

def S_slices_Min_int_l2 (F : Nat) (p0_x : List Int) (x27 : Int) (x28 : Int) : Option ((Int × Int) ⊕ (Int)) :=
  (if (decide (x28 < (p0_x.length : Int))) = true then ((idxL p0_x x28).bind fun x40 => some (Sum.inl ((if x40 < x27 then x40 else x27), (IntKind.i64.wrap (x28 + 1))))) else some (Sum.inr x27))

def S_slices_Min_int (F : Nat) (p0_x : List Int) : Option (Int) :=
  (if (decide ((p0_x.length : Int) < 1)) = true then none else ((idxL p0_x 0).bind fun x7 => (loopN (σ := (Int × Int)) (β := Int) (fun s => S_slices_Min_int_l2 F p0_x s.1 s.2) F (x7, 1)).bind (fun b => S_slices_Min_int_j1 F b)))

def S_impl_CanonicalCycle_j2 (F : Nat) (l77 : List Int) : Option ((List (Int))) :=
  some l77

def S_impl_CanonicalCycle_l3 (F : Nat) (p0_l : List Int) (x32 : Int) (x80 : Int) (l82 : List Int) (x83 : Int) : Option ((Int × (List Int) × Int) ⊕ (((List Int)))) :=
  (if (decide (x83 < (p0_l.length : Int))) = true then ((idxL p0_l x80).bind fun x115 => ((catO l82.length ([x115] : List (Int)).length).bind fun _ => ((nzO (p0_l.length : Int)).bind fun _ => some (Sum.inl (((IntKind.i64.wrap (x80 + x32)).tmod (p0_l.length : Int)), (l82 ++ ([x115] : List (Int))), (IntKind.i64.wrap (x83 + 1))))))) else some (Sum.inr l82))

def S_impl_CanonicalCycle_j1 (F : Nat) (p0_l : List Int) (r24 : Int) (x32 : Int) : Option ((List (Int))) :=
  (loopN (σ := (Int × (List Int) × Int)) (β := (((List Int)))) (fun s => S_impl_CanonicalCycle_l3 F p0_l x32 s.1 s.2.1 s.2.2) F (r24, ([] : List (Int)), 0)).bind (fun b => S_impl_CanonicalCycle_j2 F b)

def S_impl_CanonicalCycle (F : Nat) (p0_l : List Int) : Option ((List (Int))) :=
  ((S_impl_within F (p0_l.length : Int) 3 20).bind fun r14 => (if (!r14) = true then ((catO ([] : List (Int)).length p0_l.length).bind fun _ => some (([] : List (Int)) ++ p0_l)) else ((S_slices_Min_int F p0_l).bind fun r23 => ((S_slices_Index_int F p0_l r23).bind fun r24 => ((nzO (p0_l.length : Int)).bind fun _ => ((idxL p0_l ((IntKind.i64.wrap ((IntKind.i64.wrap (r24 + (p0_l.length : Int))) - 1)).tmod (p0_l.length : Int))).bind fun x121 => ((nzO (p0_l.length : Int)).bind fun _ => ((idxL p0_l ((IntKind.i64.wrap (r24 + 1)).tmod (p0_l.length : Int))).bind fun x122 => (if (decide (x121 < x122)) = true then S_impl_CanonicalCycle_j1 F p0_l r24 (IntKind.i64.wrap ((p0_l.length : Int) - 1)) else S_impl_CanonicalCycle_j1 F p0_l r24 1)))))))))

def S_spec_ComplementOf_j1 (F : Nat) (p0_g_Size : Int) (l61 : List Int) : Option (Int × (List (Int)) × Bool) :=
  some (p0_g_Size, l61, true)

def S_spec_ComplementOf_j3 (F : Nat) (x79 : Int) (l100 : List Int) : Option (((List Int) × Int) ⊕ (((List Int)))) :=
  some (Sum.inl (l100, (IntKind.i64.wrap (x79 + 1))))

def S_spec_ComplementOf_l2 (F : Nat) (p0_g_Size : Int) (p0_g_Rows : List Int) (l78 : List Int) (x79 : Int) : Option (((List Int) × Int) ⊕ (((List Int)))) :=
  (if (decide (x79 < p0_g_Size)) = true then ((nnO p0_g_Size).bind fun _ => ((idxL p0_g_Rows x79).bind fun x101 => ((nnO x79).bind fun _ => ((catO l78.length ([(IntKind.i64.wrap ((IntKind.i64.wrap ((IntKind.i64.wrap ((shL 1 p0_g_Size) - 1)) - x101)) - (shL 1 x79)))] : List (Int)).length).bind fun _ => S_spec_ComplementOf_j3 F x79 (l78 ++ ([(IntKind.i64.wrap ((IntKind.i64.wrap ((IntKind.i64.wrap ((shL 1 p0_g_Size) - 1)) - x101)) - (shL 1 x79)))] : List (Int))))))) else some (Sum.inr l78))

def S_spec_ComplementOf (F : Nat) (p0_g_Size : Int) (p0_g_Rows : List Int) : Option (Int × (List (Int)) × Bool) :=
  ((S_spec_IsGraph F p0_g_Size p0_g_Rows).bind fun r13 => (if (!r13) = true then some (0, ([] : List (Int)), false) else (loopN (σ := ((List Int) × Int)) (β := (((List Int)))) (fun s => S_spec_ComplementOf_l2 F p0_g_Size p0_g_Rows s.1 s.2) F (([] : List (Int)), 0)).bind (fun b => S_spec_ComplementOf_j1 F p0_g_Size b)))

def S_spec_CanonicalCycle_j3 (F : Nat) (l115 : List Int) : Option ((List (Int))) :=
  some l115

def S_spec_CanonicalCycle_j5 (F : Nat) (x120 : Int) (l165 : List Int) : Option (((List Int) × Int) ⊕ (((List Int)))) :=
  some (Sum.inl (l165, (IntKind.i64.wrap (x120 + 1))))

def S_spec_CanonicalCycle_l4 (F : Nat) (p0_l : List Int) (x51 : Int) (l119 : List Int) (x120 : Int) : Option (((List Int) × Int) ⊕ (((List Int)))) :=
  (if (decide (x120 < (p0_l.length : Int))) = true then ((nzO (p0_l.length : Int)).bind fun _ => ((idxL p0_l ((IntKind.i64.wrap (x51 + 1)).tmod (p0_l.length : Int))).bind fun x169 => ((nzO (p0_l.length : Int)).bind fun _ => ((idxL p0_l ((IntKind.i64.wrap ((IntKind.i64.wrap (x51 + (p0_l.length : Int))) - 1)).tmod (p0_l.length : Int))).bind fun x170 => (if (decide (x169 ≤ x170)) = true then ((nzO (p0_l.length : Int)).bind fun _ => ((idxL p0_l ((IntKind.i64.wrap (x51 + x120)).tmod (p0_l.length : Int))).bind fun x171 => ((catO l119.length ([x171] : List (Int)).length).bind fun _ => S_spec_CanonicalCycle_j5 F x120 (l119 ++ ([x171] : List (Int)))))) else ((nzO (p0_l.length : Int)).bind fun _ => ((idxL p0_l ((IntKind.i64.wrap ((IntKind.i64.wrap (x51 + (p0_l.length : Int))) - x120)).tmod (p0_l.length : Int))).bind fun x174 => ((catO l119.length ([x174] : List (Int)).length).bind fun _ => S_spec_CanonicalCycle_j5 F x120 (l119 ++ ([x174] : List (Int))))))))))) else some (Sum.inr l119))

def S_spec_CanonicalCycle_j2 (F : Nat) (p0_l : List Int) (x51 : Int) : Option ((List (Int))) :=
  (loopN (σ := ((List Int) × Int)) (β := (((List Int)))) (fun s => S_spec_CanonicalCycle_l4 F p0_l x51 s.1 s.2) F (([] : List (Int)), 0)).bind (fun b => S_spec_CanonicalCycle_j3 F b)

def S_spec_CanonicalCycle_j7 (F : Nat) (x179 : Int) (x204 : Int) : Option ((Int × Int) ⊕ (Int)) :=
  some (Sum.inl (x204, (IntKind.i64.wrap (x179 + 1))))

def S_spec_CanonicalCycle_l6 (F : Nat) (p0_l : List Int) (x178 : Int) (x179 : Int) : Option ((Int × Int) ⊕ (Int)) :=
  (if (decide (x179 < (p0_l.length : Int))) = true then ((idxL p0_l x179).bind fun x208 => ((idxL p0_l x178).bind fun x209 => (if (decide (x208 < x209)) = true then S_spec_CanonicalCycle_j7 F x179 x179 else S_spec_CanonicalCycle_j7 F x179 x178))) else some (Sum.inr x178))

def S_spec_CanonicalCycle_j1 (F : Nat) (p0_l : List Int) (p12 : Bool) : Option ((List (Int))) :=
  (if p12 = true then ((catO ([] : List (Int)).length p0_l.length).bind fun _ => some (([] : List (Int)) ++ p0_l)) else (loopN (σ := (Int × Int)) (β := Int) (fun s => S_spec_CanonicalCycle_l6 F p0_l s.1 s.2) F (0, 0)).bind (fun b => S_spec_CanonicalCycle_j2 F p0_l b))

def S_spec_CanonicalCycle (F : Nat) (p0_l : List Int) : Option ((List (Int))) :=
  (if (decide ((p0_l.length : Int) < 3)) = true then S_spec_CanonicalCycle_j1 F p0_l true else S_spec_CanonicalCycle_j1 F p0_l (decide ((20 : Int) < (p0_l.length : Int))))

def S_impl_label_j1 (F : Nat) (x31 : Int) : Option (Int) :=
  some x31

def S_impl_label_l2 (F : Nat) (p0_g_Rows : List Int) (p1_v : Int) (p2_order : List Int) (x34 : Int) (x35 : Int) : Option ((Int × Int) ⊕ (Int)) :=
  (if (decide (x35 < (p2_order.length : Int))) = true then ((idxL p2_order x35).bind fun x56 => ((idxL p0_g_Rows p1_v).bind fun x57 => ((nnO x56).bind fun _ => some (Sum.inl ((IntKind.i64.wrap ((IntKind.i64.wrap (2 * x34)) + (bAnd (shR x57 x56) 1))), (IntKind.i64.wrap (x35 + 1))))))) else some (Sum.inr x34))

def S_impl_label (F : Nat) (p0_g_Size : Int) (p0_g_Rows : List Int) (p1_v : Int) (p2_order : List Int) : Option (Int) :=
  (loopN (σ := (Int × Int)) (β := Int) (fun s => S_impl_label_l2 F p0_g_Rows p1_v p2_order s.1 s.2) F (0, 0)).bind (fun b => S_impl_label_j1 F b)

def S_impl_LexOrder_c1 (F : Nat) (p0_v : Int) (p1_order : List Int) (q0_Size : Int) (q0_Rows : List Int) : Option (Int) :=
  ((S_impl_label F q0_Size q0_Rows p0_v p1_order).bind fun r4 => some r4)

def S_impl_isVertex_j1 (F : Nat) (p0_g_Size : Int) (p0_g_Rows : List Int) : Option (Bool) :=
  ((S_impl_IsGraph F p0_g_Size p0_g_Rows).bind fun r43 => some r43)

def S_impl_isVertex_l2 (F : Nat) (p0_g_Size : Int) (p1_vertices : List Int) (x45 : Int) : Option ((Int) ⊕ (Unit ⊕ Bool)) :=
  (if (decide (x45 < (p1_vertices.length : Int))) = true then ((idxL p1_vertices x45).bind fun x75 => ((S_impl_within F x75 0 (IntKind.i64.wrap (p0_g_Size - 1))).bind fun r78 => (if (!r78) = true then some (Sum.inr (Sum.inr false)) else some (Sum.inl (IntKind.i64.wrap (x45 + 1)))))) else some (Sum.inr (Sum.inl ())))

def S_impl_isVertex (F : Nat) (p0_g_Size : Int) (p0_g_Rows : List Int) (p1_vertices : List Int) : Option (Bool) :=
  (loopN (σ := Int) (β := (Unit ⊕ Bool)) (fun s => S_impl_isVertex_l2 F p0_g_Size p1_vertices s) F 0).bind (fun b => (match b with | .inl o => S_impl_isVertex_j1 F p0_g_Size p0_g_Rows | .inr o => some o))

def S_impl_greedyOrder__LexOrderc1_j1 (F : Nat) (l224 : List Int) : Option ((List (Int)) × Bool) :=
  some (l224, true)

def S_impl_greedyOrder__LexOrderc1_j3 (F : Nat) (l227 : List Int) (x379 : Int) : Option (((List Int)) ⊕ (((List Int)))) :=
  ((catO l227.length ([x379] : List (Int)).length).bind fun _ => some (Sum.inl (l227 ++ ([x379] : List (Int)))))

def S_impl_greedyOrder__LexOrderc1_j5 (F : Nat) (x385 : Int) (x418 : Int) (x419 : Int) : Option ((Int × Int × Int) ⊕ (Int)) :=
  some (Sum.inl (x418, x419, (IntKind.i64.wrap (x385 + 1))))

def S_impl_greedyOrder__LexOrderc1_j6 (F : Nat) (x383 : Int) (x384 : Int) (x385 : Int) (r423 : Int) (p426 : Bool) : Option ((Int × Int × Int) ⊕ (Int)) :=
  (if p426 = true then S_impl_greedyOrder__LexOrderc1_j5 F x385 x385 r423 else S_impl_greedyOrder__LexOrderc1_j5 F x385 x383 x384)

def S_impl_greedyOrder__LexOrderc1_l4 (F : Nat) (p0_g_Size : Int) (p2_number_c0_Size : Int) (p2_number_c0_Rows : List Int) (l227 : List Int) (x383 : Int) (x384 : Int) (x385 : Int) : Option ((Int × Int × Int) ⊕ (Int)) :=
  (if (decide (x385 < p0_g_Size)) = true then ((S_impl_LexOrder_c1 F x385 l227 p2_number_c0_Size p2_number_c0_Rows).bind fun r423 => ((S_slices_Contains_int F l227 x385).bind fun r427 => (if (!r427) = true then S_impl_greedyOrder__LexOrderc1_j6 F x383 x384 x385 r423 (decide (x384 < r423)) else S_impl_greedyOrder__LexOrderc1_j6 F x383 x384 x385 r423 false))) else some (Sum.inr x383))

def S_impl_greedyOrder__LexOrderc1_l2 (F : Nat) (p0_g_Size : Int) (p2_number_c0_Size : Int) (p2_number_c0_Rows : List Int) (l227 : List Int) : Option (((List Int)) ⊕ (((List Int)))) :=
  (if (decide ((l227.length : Int) < p0_g_Size)) = true then (loopN (σ := (Int × Int × Int)) (β := Int) (fun s => S_impl_greedyOrder__LexOrderc1_l4 F p0_g_Size p2_number_c0_Size p2_number_c0_Rows l227 s.1 s.2.1 s.2.2) F ((-1), (-1), 0)).bind (fun b => S_impl_greedyOrder__LexOrderc1_j3 F l227 b) else some (Sum.inr l227))

def S_impl_greedyOrder__LexOrderc1 (F : Nat) (p0_g_Size : Int) (p0_g_Rows : List Int) (p1_start : Int) (p2_number_c0_Size : Int) (p2_number_c0_Rows : List Int) : Option ((List (Int)) × Bool) :=
  ((S_impl_isVertex F p0_g_Size p0_g_Rows ([p1_start] : List (Int))).bind fun r15 => (if (!r15) = true then some (([] : List (Int)), false) else (loopN (σ := ((List Int))) (β := (((List Int)))) (fun s => S_impl_greedyOrder__LexOrderc1_l2 F p0_g_Size p2_number_c0_Size p2_number_c0_Rows s) F ([p1_start] : List (Int))).bind (fun b => S_impl_greedyOrder__LexOrderc1_j1 F b)))

def S_impl_LexOrder (F : Nat) (p0_g_Size : Int) (p0_g_Rows : List Int) (p1_start : Int) : Option ((List (Int)) × Bool) :=
  ((S_impl_greedyOrder__LexOrderc1 F p0_g_Size p0_g_Rows p1_start p0_g_Size p0_g_Rows).bind fun r7 => some (r7.1, r7.2))

def S_spec_l5Label_j1 (F : Nat) (x47 : Int) : Option (Int) :=
  some x47

def S_spec_l5Label_j3 (F : Nat) (x51 : Int) (x82 : Int) : Option ((Int × Int) ⊕ (Int)) :=
  some (Sum.inl (x82, (IntKind.i64.wrap (x51 + 1))))

def S_spec_l5Label_j4 (F : Nat) (x50 : Int) (x51 : Int) (p87 : Bool) : Option ((Int × Int) ⊕ (Int)) :=
  (if p87 = true then S_spec_l5Label_j3 F x51 (IntKind.i64.wrap ((IntKind.i64.wrap (x50 * 2)) + 1)) else S_spec_l5Label_j3 F x51 (IntKind.i64.wrap (x50 * 2)))

def S_spec_l5Label_l2 (F : Nat) (p0_g_Size : Int) (p0_g_Rows : List Int) (p1_order : List Int) (p2_v : Int) (x50 : Int) (x51 : Int) : Option ((Int × Int) ⊕ (Int)) :=
  (if (decide (x51 < 7)) = true then (if (decide (x51 < (p1_order.length : Int))) = true then ((idxL p1_order x51).bind fun x88 => ((S_spec_l2Edge F p0_g_Size p0_g_Rows x88 p2_v).bind fun r89 => S_spec_l5Label_j4 F x50 x51 r89)) else S_spec_l5Label_j4 F x50 x51 false) else some (Sum.inr x50))

def S_spec_l5Label (F : Nat) (p0_g_Size : Int) (p0_g_Rows : List Int) (p1_order : List Int) (p2_v : Int) : Option (Int) :=
  (loopN (σ := (Int × Int)) (β := Int) (fun s => S_spec_l5Label_l2 F p0_g_Size p0_g_Rows p1_order p2_v s.1 s.2) F (0, 0)).bind (fun b => S_spec_l5Label_j1 F b)

def S_spec_LexOrder_j2 (F : Nat) (l197 : List Int) : Option ((List (Int)) × Bool) :=
  some (l197, true)

def S_spec_LexOrder_j4 (F : Nat) (l200 : List Int) (x201 : Int) (x329 : Int) : Option (((List Int) × Int) ⊕ (((List Int)))) :=
  ((catO l200.length ([x329] : List (Int)).length).bind fun _ => ((nnO x329).bind fun _ => some (Sum.inl ((l200 ++ ([x329] : List (Int))), (IntKind.i64.wrap (x201 + (shL 1 x329)))))))

def S_spec_LexOrder_j6 (F : Nat) (x337 : Int) (x365 : Int) : Option ((Int × Int) ⊕ (Int)) :=
  some (Sum.inl (x365, (IntKind.i64.wrap (x337 + 1))))

def S_spec_LexOrder_j7 (F : Nat) (x336 : Int) (x337 : Int) (p369 : Bool) : Option ((Int × Int) ⊕ (Int)) :=
  (if p369 = true then S_spec_LexOrder_j6 F x337 x337 else S_spec_LexOrder_j6 F x337 x336)

def S_spec_LexOrder_l5 (F : Nat) (p0_g_Size : Int) (p0_g_Rows : List Int) (l200 : List Int) (x201 : Int) (x336 : Int) (x337 : Int) : Option ((Int × Int) ⊕ (Int)) :=
  (if (decide (x337 < p0_g_Size)) = true then ((nnO x337).bind fun _ => (if ((bAnd (shR x201 x337) 1) == 0) = true then (if (decide (x336 < 0)) = true then S_spec_LexOrder_j7 F x336 x337 true else ((S_spec_l5Label F p0_g_Size p0_g_Rows l200 x337).bind fun r370 => ((S_spec_l5Label F p0_g_Size p0_g_Rows l200 x336).bind fun r371 => S_spec_LexOrder_j7 F x336 x337 (decide (r371 < r370))))) else S_spec_LexOrder_j7 F x336 x337 false)) else some (Sum.inr x336))

def S_spec_LexOrder_l3 (F : Nat) (p0_g_Size : Int) (p0_g_Rows : List Int) (l200 : List Int) (x201 : Int) : Option (((List Int) × Int) ⊕ (((List Int)))) :=
  (if (decide ((l200.length : Int) < p0_g_Size)) = true then (loopN (σ := (Int × Int)) (β := Int) (fun s => S_spec_LexOrder_l5 F p0_g_Size p0_g_Rows l200 x201 s.1 s.2) F ((-1), 0)).bind (fun b => S_spec_LexOrder_j4 F l200 x201 b) else some (Sum.inr l200))

def S_spec_LexOrder_j1 (F : Nat) (p0_g_Size : Int) (p0_g_Rows : List Int) (p1_start : Int) (p14 : Bool) : Option ((List (Int)) × Bool) :=
  (if p14 = true then some (([] : List (Int)), false) else ((nnO p1_start).bind fun _ => (loopN (σ := ((List Int) × Int)) (β := (((List Int)))) (fun s => S_spec_LexOrder_l3 F p0_g_Size p0_g_Rows s.1 s.2) F (([p1_start] : List (Int)), (shL 1 p1_start))).bind (fun b => S_spec_LexOrder_j2 F b)))

def S_spec_LexOrder (F : Nat) (p0_g_Size : Int) (p0_g_Rows : List Int) (p1_start : Int) : Option ((List (Int)) × Bool) :=
  ((S_spec_IsGraph F p0_g_Size p0_g_Rows).bind fun r372 => (if (!r372) = true then S_spec_LexOrder_j1 F p0_g_Size p0_g_Rows p1_start true else (if (decide (p1_start < 0)) = true then S_spec_LexOrder_j1 F p0_g_Size p0_g_Rows p1_start true else S_spec_LexOrder_j1 F p0_g_Size p0_g_Rows p1_start (decide (p0_g_Size ≤ p1_start)))))

def S_impl_SetOf_j1 (F : Nat) (x85 : Int) : Option (Int × Bool) :=
  some (x85, true)

def S_impl_SetOf_j3 (F : Nat) (x88 : Int) (x89 : Int) (x152 : Int) (p164 : Bool) : Option ((Int × Int) ⊕ (Int ⊕ (Int × Bool))) :=
  (if p164 = true then some (Sum.inr (Sum.inr (0, false))) else ((nnO x152).bind fun _ => some (Sum.inl ((bOr x88 (shL 1 x152)), (IntKind.i64.wrap (x89 + 1))))))

def S_impl_SetOf_l2 (F : Nat) (p0_l : List Int) (x88 : Int) (x89 : Int) : Option ((Int × Int) ⊕ (Int ⊕ (Int × Bool))) :=
  (if (decide (x89 < (p0_l.length : Int))) = true then ((idxL p0_l x89).bind fun x152 => ((S_impl_within F x152 0 6).bind fun r166 => (if (!r166) = true then S_impl_SetOf_j3 F x88 x89 x152 true else ((S_impl_has F x88 x152).bind fun r167 => S_impl_SetOf_j3 F x88 x89 x152 r167)))) else some (Sum.inr (Sum.inl x88)))

def S_impl_SetOf (F : Nat) (p0_l : List Int) : Option (Int × Bool) :=
  (loopN (σ := (Int × Int)) (β := (Int ⊕ (Int × Bool))) (fun s => S_impl_SetOf_l2 F p0_l s.1 s.2) F (0, 0)).bind (fun b => (match b with | .inl o => S_impl_SetOf_j1 F o | .inr o => some o))

def S_impl_ListOf_j1 (F : Nat) (l54 : List Int) : Option ((List (Int))) :=
  some l54

def S_impl_ListOf_j3 (F : Nat) (x59 : Int) (l87 : List Int) : Option (((List Int) × Int) ⊕ (((List Int)))) :=
  some (Sum.inl (l87, (IntKind.i64.wrap (x59 + 1))))

def S_impl_ListOf_l2 (F : Nat) (p0_set : Int) (l58 : List Int) (x59 : Int) : Option (((List Int) × Int) ⊕ (((List Int)))) :=
  (if (decide (x59 < 7)) = true then ((S_impl_has F p0_set x59).bind fun r91 => (if r91 = true then ((catO l58.length ([x59] : List (Int)).length).bind fun _ => S_impl_ListOf_j3 F x59 (l58 ++ ([x59] : List (Int)))) else S_impl_ListOf_j3 F x59 l58)) else some (Sum.inr l58))

def S_impl_ListOf (F : Nat) (p0_set : Int) : Option ((List (Int))) :=
  ((S_impl_within F p0_set 0 127).bind fun r12 => (if (!r12) = true then some ([] : List (Int)) else (loopN (σ := ((List Int) × Int)) (β := (((List Int)))) (fun s => S_impl_ListOf_l2 F p0_set s.1 s.2) F (([] : List (Int)), 0)).bind (fun b => S_impl_ListOf_j1 F b)))

def S_impl_CountSet (F : Nat) (p0_set : Int) : Option (Int) :=
  ((S_impl_ListOf F p0_set).bind fun r5 => some (r5.length : Int))

def S_impl_CardinalityOrder_c1 (F : Nat) (p0_v : Int) (p1_order : List Int) (q0_Size : Int) (q0_Rows : List Int) : Option (Int) :=
  ((S_impl_SetOf F p1_order).bind fun r4 => ((idxL q0_Rows p0_v).bind fun x8 => ((S_impl_CountSet F (bAnd x8 r4.1)).bind fun r9 => some r9)))

def S_impl_greedyOrder__CardinalityOrderc1_j1 (F : Nat) (l224 : List Int) : Option ((List (Int)) × Bool) :=
  some (l224, true)

def S_impl_greedyOrder__CardinalityOrderc1_j3 (F : Nat) (l227 : List Int) (x379 : Int) : Option (((List Int)) ⊕ (((List Int)))) :=
  ((catO l227.length ([x379] : List (Int)).length).bind fun _ => some (Sum.inl (l227 ++ ([x379] : List (Int)))))

def S_impl_greedyOrder__CardinalityOrderc1_j5 (F : Nat) (x385 : Int) (x418 : Int) (x419 : Int) : Option ((Int × Int × Int) ⊕ (Int)) :=
  some (Sum.inl (x418, x419, (IntKind.i64.wrap (x385 + 1))))

def S_impl_greedyOrder__CardinalityOrderc1_j6 (F : Nat) (x383 : Int) (x384 : Int) (x385 : Int) (r423 : Int) (p426 : Bool) : Option ((Int × Int × Int) ⊕ (Int)) :=
  (if p426 = true then S_impl_greedyOrder__CardinalityOrderc1_j5 F x385 x385 r423 else S_impl_greedyOrder__CardinalityOrderc1_j5 F x385 x383 x384)

def S_impl_greedyOrder__CardinalityOrderc1_l4 (F : Nat) (p0_g_Size : Int) (p2_number_c0_Size : Int) (p2_number_c0_Rows : List Int) (l227 : List Int) (x383 : Int) (x384 : Int) (x385 : Int) : Option ((Int × Int × Int) ⊕ (Int)) :=
  (if (decide (x385 < p0_g_Size)) = true then ((S_impl_CardinalityOrder_c1 F x385 l227 p2_number_c0_Size p2_number_c0_Rows).bind fun r423 => ((S_slices_Contains_int F l227 x385).bind fun r427 => (if (!r427) = true then S_impl_greedyOrder__CardinalityOrderc1_j6 F x383 x384 x385 r423 (decide (x384 < r423)) else S_impl_greedyOrder__CardinalityOrderc1_j6 F x383 x384 x385 r423 false))) else some (Sum.inr x383))

def S_impl_greedyOrder__CardinalityOrderc1_l2 (F : Nat) (p0_g_Size : Int) (p2_number_c0_Size : Int) (p2_number_c0_Rows : List Int) (l227 : List Int) : Option (((List Int)) ⊕ (((List Int)))) :=
  (if (decide ((l227.length : Int) < p0_g_Size)) = true then (loopN (σ := (Int × Int × Int)) (β := Int) (fun s => S_impl_greedyOrder__CardinalityOrderc1_l4 F p0_g_Size p2_number_c0_Size p2_number_c0_Rows l227 s.1 s.2.1 s.2.2) F ((-1), (-1), 0)).bind (fun b => S_impl_greedyOrder__CardinalityOrderc1_j3 F l227 b) else some (Sum.inr l227))

def S_impl_greedyOrder__CardinalityOrderc1 (F : Nat) (p0_g_Size : Int) (p0_g_Rows : List Int) (p1_start : Int) (p2_number_c0_Size : Int) (p2_number_c0_Rows : List Int) : Option ((List (Int)) × Bool) :=
  ((S_impl_isVertex F p0_g_Size p0_g_Rows ([p1_start] : List (Int))).bind fun r15 => (if (!r15) = true then some (([] : List (Int)), false) else (loopN (σ := ((List Int))) (β := (((List Int)))) (fun s => S_impl_greedyOrder__CardinalityOrderc1_l2 F p0_g_Size p2_number_c0_Size p2_number_c0_Rows s) F ([p1_start] : List (Int))).bind (fun b => S_impl_greedyOrder__CardinalityOrderc1_j1 F b)))

def S_impl_CardinalityOrder (F : Nat) (p0_g_Size : Int) (p0_g_Rows : List Int) (p1_start : Int) : Option ((List (Int)) × Bool) :=
  ((S_impl_greedyOrder__CardinalityOrderc1 F p0_g_Size p0_g_Rows p1_start p0_g_Size p0_g_Rows).bind fun r7 => some (r7.1, r7.2))

def S_spec_l3Fine (F : Nat) (p0_set : Int) : Option (Bool) :=
  ((S_spec_l1In F p0_set 0 127).bind fun r4 => some r4)

def S_spec_ListOf_j1 (F : Nat) (l47 : List Int) : Option ((List (Int))) :=
  some l47

def S_spec_ListOf_j4 (F : Nat) (x52 : Int) (l84 : List Int) : Option (((List Int) × Int) ⊕ (((List Int)))) :=
  some (Sum.inl (l84, (IntKind.i64.wrap (x52 + 1))))

def S_spec_ListOf_j3 (F : Nat) (p0_set : Int) (l51 : List Int) (x52 : Int) (p78 : Bool) : Option (((List Int) × Int) ⊕ (((List Int)))) :=
  (if p78 = true then ((nnO x52).bind fun _ => (if ((bAnd (shR p0_set x52) 1) == 1) = true then ((catO l51.length ([x52] : List (Int)).length).bind fun _ => S_spec_ListOf_j4 F x52 (l51 ++ ([x52] : List (Int)))) else S_spec_ListOf_j4 F x52 l51)) else some (Sum.inr l51))

def S_spec_ListOf_l2 (F : Nat) (p0_set : Int) (l51 : List Int) (x52 : Int) : Option (((List Int) × Int) ⊕ (((List Int)))) :=
  (if (decide (x52 < 7)) = true then ((S_spec_l3Fine F p0_set).bind fun r88 => S_spec_ListOf_j3 F p0_set l51 x52 r88) else S_spec_ListOf_j3 F p0_set l51 x52 false)

def S_spec_ListOf (F : Nat) (p0_set : Int) : Option ((List (Int))) :=
  (loopN (σ := ((List Int) × Int)) (β := (((List Int)))) (fun s => S_spec_ListOf_l2 F p0_set s.1 s.2) F (([] : List (Int)), 0)).bind (fun b => S_spec_ListOf_j1 F b)

def S_spec_CountSet (F : Nat) (p0_set : Int) : Option (Int) :=
  ((S_spec_ListOf F p0_set).bind fun r5 => some (r5.length : Int))

def S_spec_CardinalityOrder_j2 (F : Nat) (l243 : List Int) : Option ((List (Int)) × Bool) :=
  some (l243, true)

def S_spec_CardinalityOrder_j4 (F : Nat) (l246 : List Int) (x247 : Int) (x410 : Int) : Option (((List Int) × Int) ⊕ (((List Int)))) :=
  ((catO l246.length ([x410] : List (Int)).length).bind fun _ => ((nnO x410).bind fun _ => some (Sum.inl ((l246 ++ ([x410] : List (Int))), (IntKind.i64.wrap (x247 + (shL 1 x410)))))))

def S_spec_CardinalityOrder_j6 (F : Nat) (x419 : Int) (x454 : Int) (x455 : Int) : Option ((Int × Int × Int) ⊕ (Int)) :=
  some (Sum.inl (x454, x455, (IntKind.i64.wrap (x419 + 1))))

def S_spec_CardinalityOrder_j7 (F : Nat) (x417 : Int) (x418 : Int) (x419 : Int) (r460 : Int) (p462 : Bool) : Option ((Int × Int × Int) ⊕ (Int)) :=
  (if p462 = true then S_spec_CardinalityOrder_j6 F x419 x419 r460 else S_spec_CardinalityOrder_j6 F x419 x417 x418)

def S_spec_CardinalityOrder_l5 (F : Nat) (p0_g_Size : Int) (p0_g_Rows : List Int) (x247 : Int) (x417 : Int) (x418 : Int) (x419 : Int) : Option ((Int × Int × Int) ⊕ (Int)) :=
  (if (decide (x419 < p0_g_Size)) = true then ((idxL p0_g_Rows x419).bind fun x459 => ((S_spec_CountSet F (bAnd x459 x247)).bind fun r460 => ((nnO x419).bind fun _ => (if ((bAnd (shR x247 x419) 1) == 0) = true then S_spec_CardinalityOrder_j7 F x417 x418 x419 r460 (decide (x418 < r460)) else S_spec_CardinalityOrder_j7 F x417 x418 x419 r460 false)))) else some (Sum.inr x417))

def S_spec_CardinalityOrder_l3 (F : Nat) (p0_g_Size : Int) (p0_g_Rows : List Int) (l246 : List Int) (x247 : Int) : Option (((List Int) × Int) ⊕ (((List Int)))) :=
  (if (decide ((l246.length : Int) < p0_g_Size)) = true then (loopN (σ := (Int × Int × Int)) (β := Int) (fun s => S_spec_CardinalityOrder_l5 F p0_g_Size p0_g_Rows x247 s.1 s.2.1 s.2.2) F ((-1), (-1), 0)).bind (fun b => S_spec_CardinalityOrder_j4 F l246 x247 b) else some (Sum.inr l246))

def S_spec_CardinalityOrder_j1 (F : Nat) (p0_g_Size : Int) (p0_g_Rows : List Int) (p1_start : Int) (p14 : Bool) : Option ((List (Int)) × Bool) :=
  (if p14 = true then some (([] : List (Int)), false) else ((nnO p1_start).bind fun _ => (loopN (σ := ((List Int) × Int)) (β := (((List Int)))) (fun s => S_spec_CardinalityOrder_l3 F p0_g_Size p0_g_Rows s.1 s.2) F (([p1_start] : List (Int)), (shL 1 p1_start))).bind (fun b => S_spec_CardinalityOrder_j2 F b)))

def S_spec_CardinalityOrder (F : Nat) (p0_g_Size : Int) (p0_g_Rows : List Int) (p1_start : Int) : Option ((List (Int)) × Bool) :=
  ((S_spec_IsGraph F p0_g_Size p0_g_Rows).bind fun r464 => (if (!r464) = true then S_spec_CardinalityOrder_j1 F p0_g_Size p0_g_Rows p1_start true else (if (decide (p1_start < 0)) = true then S_spec_CardinalityOrder_j1 F p0_g_Size p0_g_Rows p1_start true else S_spec_CardinalityOrder_j1 F p0_g_Size p0_g_Rows p1_start (decide (p0_g_Size ≤ p1_start)))))

def S_impl_BreadthOrder_j1 (F : Nat) (l254 : List Int) : Option ((List (Int)) × Bool) :=
  some (l254, true)

def S_impl_BreadthOrder_j3 (F : Nat) (x259 : Int) (l433 : List Int) : Option (((List Int) × Int) ⊕ (((List Int)))) :=
  some (Sum.inl (l433, (IntKind.i64.wrap (x259 + 1))))

def S_impl_BreadthOrder_j5 (F : Nat) (x445 : Int) (l479 : List Int) : Option (((List Int) × Int) ⊕ (((List Int)))) :=
  some (Sum.inl (l479, (IntKind.i64.wrap (x445 + 1))))

def S_impl_BreadthOrder_l4 (F : Nat) (r441 : (List (Int))) (l444 : List Int) (x445 : Int) : Option (((List Int) × Int) ⊕ (((List Int)))) :=
  (if (decide (x445 < (r441.length : Int))) = true then ((idxL r441 x445).bind fun x482 => ((S_slices_Contains_int F l444 x482).bind fun r485 => (if (!r485) = true then ((catO l444.length ([x482] : List (Int)).length).bind fun _ => S_impl_BreadthOrder_j5 F x445 (l444 ++ ([x482] : List (Int)))) else S_impl_BreadthOrder_j5 F x445 l444))) else some (Sum.inr l444))

def S_impl_BreadthOrder_l2 (F : Nat) (p0_g_Rows : List Int) (l258 : List Int) (x259 : Int) : Option (((List Int) × Int) ⊕ (((List Int)))) :=
  (if (decide (x259 < (l258.length : Int))) = true then ((idxL l258 x259).bind fun x439 => ((idxL p0_g_Rows x439).bind fun x440 => ((S_impl_ListOf F x440).bind fun r441 => (loopN (σ := ((List Int) × Int)) (β := (((List Int)))) (fun s => S_impl_BreadthOrder_l4 F r441 s.1 s.2) F (l258, 0)).bind (fun b => S_impl_BreadthOrder_j3 F x259 b)))) else some (Sum.inr l258))

def S_impl_BreadthOrder (F : Nat) (p0_g_Size : Int) (p0_g_Rows : List Int) (p1_start : Int) : Option ((List (Int)) × Bool) :=
  ((S_impl_isVertex F p0_g_Size p0_g_Rows ([p1_start] : List (Int))).bind fun r15 => (if (!r15) = true then some (([] : List (Int)), false) else (loopN (σ := ((List Int) × Int)) (β := (((List Int)))) (fun s => S_impl_BreadthOrder_l2 F p0_g_Rows s.1 s.2) F (([p1_start] : List (Int)), 0)).bind (fun b => S_impl_BreadthOrder_j1 F b)))

def S_spec_BreadthOrder_j2 (F : Nat) (l295 : List Int) : Option ((List (Int)) × Bool) :=
  some (l295, true)

def S_spec_BreadthOrder_j4 (F : Nat) (x301 : Int) (l503 : List Int) (x504 : Int) : Option (((List Int) × Int × Int) ⊕ (((List Int)))) :=
  some (Sum.inl (l503, x504, (IntKind.i64.wrap (x301 + 1))))

def S_spec_BreadthOrder_j6 (F : Nat) (x509 : Int) (l555 : List Int) (x556 : Int) : Option (((List Int) × Int × Int) ⊕ (((List Int) × Int))) :=
  some (Sum.inl (l555, x556, (IntKind.i64.wrap (x509 + 1))))

def S_spec_BreadthOrder_j7 (F : Nat) (l507 : List Int) (x508 : Int) (x509 : Int) (p560 : Bool) : Option (((List Int) × Int × Int) ⊕ (((List Int) × Int))) :=
  (if p560 = true then ((catO l507.length ([x509] : List (Int)).length).bind fun _ => ((nnO x509).bind fun _ => S_spec_BreadthOrder_j6 F x509 (l507 ++ ([x509] : List (Int))) (IntKind.i64.wrap (x508 + (shL 1 x509))))) else S_spec_BreadthOrder_j6 F x509 l507 x508)

def S_spec_BreadthOrder_l5 (F : Nat) (p0_g_Size : Int) (p0_g_Rows : List Int) (x301 : Int) (l507 : List Int) (x508 : Int) (x509 : Int) : Option (((List Int) × Int × Int) ⊕ (((List Int) × Int))) :=
  (if (decide (x509 < p0_g_Size)) = true then ((nnO x509).bind fun _ => (if ((bAnd (shR x508 x509) 1) == 0) = true then ((idxL l507 x301).bind fun x566 => ((S_spec_l2Edge F p0_g_Size p0_g_Rows x566 x509).bind fun r567 => S_spec_BreadthOrder_j7 F l507 x508 x509 r567)) else S_spec_BreadthOrder_j7 F l507 x508 x509 false)) else some (Sum.inr (l507, x508)))

def S_spec_BreadthOrder_l3 (F : Nat) (p0_g_Size : Int) (p0_g_Rows : List Int) (l299 : List Int) (x300 : Int) (x301 : Int) : Option (((List Int) × Int × Int) ⊕ (((List Int)))) :=
  (if (decide (x301 < (l299.length : Int))) = true then (loopN (σ := ((List Int) × Int × Int)) (β := (((List Int) × Int))) (fun s => S_spec_BreadthOrder_l5 F p0_g_Size p0_g_Rows x301 s.1 s.2.1 s.2.2) F (l299, x300, 0)).bind (fun b => S_spec_BreadthOrder_j4 F x301 b.1 b.2) else some (Sum.inr l299))

def S_spec_BreadthOrder_j1 (F : Nat) (p0_g_Size : Int) (p0_g_Rows : List Int) (p1_start : Int) (p14 : Bool) : Option ((List (Int)) × Bool) :=
  (if p14 = true then some (([] : List (Int)), false) else ((nnO p1_start).bind fun _ => (loopN (σ := ((List Int) × Int × Int)) (β := (((List Int)))) (fun s => S_spec_BreadthOrder_l3 F p0_g_Size p0_g_Rows s.1 s.2.1 s.2.2) F (([p1_start] : List (Int)), (shL 1 p1_start), 0)).bind (fun b => S_spec_BreadthOrder_j2 F b)))

def S_spec_BreadthOrder (F : Nat) (p0_g_Size : Int) (p0_g_Rows : List Int) (p1_start : Int) : Option ((List (Int)) × Bool) :=
  ((S_spec_IsGraph F p0_g_Size p0_g_Rows).bind fun r568 => (if (!r568) = true then S_spec_BreadthOrder_j1 F p0_g_Size p0_g_Rows p1_start true else (if (decide (p1_start < 0)) = true then S_spec_BreadthOrder_j1 F p0_g_Size p0_g_Rows p1_start true else S_spec_BreadthOrder_j1 F p0_g_Size p0_g_Rows p1_start (decide (p0_g_Size ≤ p1_start)))))

def S_impl_IsOrder_j1 (F : Nat) (p6 : Bool) : Option (Bool) :=
  some p6

def S_impl_IsOrder (F : Nat) (p0_g_Size : Int) (p0_g_Rows : List Int) (p1_l : List Int) : Option (Bool) :=
  ((S_impl_areVertices F p0_g_Size p0_g_Rows p1_l).bind fun r7 => (if r7 = true then S_impl_IsOrder_j1 F ((p1_l.length : Int) == p0_g_Size) else S_impl_IsOrder_j1 F false))

def S_impl_IsLexOrder_j1 (F : Nat) : Option (Bool) :=
  some true

def S_impl_IsLexOrder_j3 (F : Nat) (x306 : Int) : Option ((Int) ⊕ (Unit ⊕ Bool)) :=
  some (Sum.inl (IntKind.i64.wrap (x306 + 1)))

def S_impl_IsLexOrder_l4 (F : Nat) (p0_g_Size : Int) (p0_g_Rows : List Int) (p1_l : List Int) (x306 : Int) (x528 : Int) : Option ((Int) ⊕ (Unit ⊕ Bool)) :=
  (if (decide (x528 < ((p1_l.drop ((IntKind.i64.wrap (x306 + 1)).toNat)).length : Int))) = true then ((idxL (p1_l.drop ((IntKind.i64.wrap (x306 + 1)).toNat)) x528).bind fun x582 => ((slO p1_l.length x306).bind fun _ => ((idxL p1_l x306).bind fun x590 => ((slO p1_l.length x306).bind fun _ => ((S_impl_label F p0_g_Size p0_g_Rows x582 (p1_l.take (x306.toNat))).bind fun r592 => ((S_impl_label F p0_g_Size p0_g_Rows x590 (p1_l.take (x306.toNat))).bind fun r593 => (if (decide (r593 < r592)) = true then some (Sum.inr (Sum.inr false)) else some (Sum.inl (IntKind.i64.wrap (x528 + 1)))))))))) else some (Sum.inr (Sum.inl ())))

def S_impl_IsLexOrder_l2 (F : Nat) (p0_g_Size : Int) (p0_g_Rows : List Int) (p1_l : List Int) (x306 : Int) : Option ((Int) ⊕ (Unit ⊕ Bool)) :=
  (if (decide (x306 < (p1_l.length : Int))) = true then ((slO p1_l.length (IntKind.i64.wrap (x306 + 1))).bind fun _ => (loopN (σ := Int) (β := (Unit ⊕ Bool)) (fun s => S_impl_IsLexOrder_l4 F p0_g_Size p0_g_Rows p1_l x306 s) F 0).bind (fun b => (match b with | .inl o => S_impl_IsLexOrder_j3 F x306 | .inr o => some (Sum.inr (Sum.inr o))))) else some (Sum.inr (Sum.inl ())))

def S_impl_IsLexOrder (F : Nat) (p0_g_Size : Int) (p0_g_Rows : List Int) (p1_l : List Int) : Option (Bool) :=
  ((S_impl_IsOrder F p0_g_Size p0_g_Rows p1_l).bind fun r11 => (if (!r11) = true then some false else (loopN (σ := Int) (β := (Unit ⊕ Bool)) (fun s => S_impl_IsLexOrder_l2 F p0_g_Size p0_g_Rows p1_l s) F 1).bind (fun b => (match b with | .inl o => S_impl_IsLexOrder_j1 F | .inr o => some o))))

def S_impl_neighbors_j1 (F : Nat) (x35 : Int) : Option (Int) :=
  some x35

def S_impl_neighbors_l2 (F : Nat) (p0_g_Rows : List Int) (r40 : (List (Int))) (x42 : Int) (x43 : Int) : Option ((Int × Int) ⊕ (Int)) :=
  (if (decide (x43 < (r40.length : Int))) = true then ((idxL r40 x43).bind fun x64 => ((idxL p0_g_Rows x64).bind fun x65 => some (Sum.inl ((bOr x42 x65), (IntKind.i64.wrap (x43 + 1)))))) else some (Sum.inr x42))

def S_impl_neighbors (F : Nat) (p0_g_Size : Int) (p0_g_Rows : List Int) (p1_set : Int) : Option (Int) :=
  ((S_impl_ListOf F p1_set).bind fun r40 => (loopN (σ := (Int × Int)) (β := Int) (fun s => S_impl_neighbors_l2 F p0_g_Rows r40 s.1 s.2) F (0, 0)).bind (fun b => S_impl_neighbors_j1 F b))

def S_impl_DistanceOf_j1 (F : Nat) (x53 : Int) : Option (Int) :=
  some x53

def S_impl_DistanceOf_l2 (F : Nat) (p0_g_Size : Int) (p0_g_Rows : List Int) (p2_w : Int) (x55 : Int) (x56 : Int) : Option ((Int × Int) ⊕ (Int ⊕ Int)) :=
  ((S_impl_has F x55 p2_w).bind fun r79 => (if (!r79) = true then ((S_impl_neighbors F p0_g_Size p0_g_Rows x55).bind fun r82 => (if ((bOr x55 r82) == x55) = true then some (Sum.inr (Sum.inr (-1))) else some (Sum.inl ((bOr x55 r82), (IntKind.i64.wrap (x56 + 1)))))) else some (Sum.inr (Sum.inl x56))))

def S_impl_DistanceOf (F : Nat) (p0_g_Size : Int) (p0_g_Rows : List Int) (p1_v : Int) (p2_w : Int) : Option (Int) :=
  ((S_impl_isVertex F p0_g_Size p0_g_Rows ([p1_v, p2_w] : List (Int))).bind fun r15 => (if (!r15) = true then some (-1) else ((nnO p1_v).bind fun _ => (loopN (σ := (Int × Int)) (β := (Int ⊕ Int)) (fun s => S_impl_DistanceOf_l2 F p0_g_Size p0_g_Rows p2_w s.1 s.2) F ((shL 1 p1_v), 0)).bind (fun b => (match b with | .inl o => S_impl_DistanceOf_j1 F o | .inr o => some o)))))

def S_impl_partOf_l1 (F : Nat) (p0_g_Size : Int) (p0_g_Rows : List Int) (p1_set : Int) (x4 : Int) : Option ((Int) ⊕ (Int)) :=
  ((S_impl_neighbors F p0_g_Size p0_g_Rows x4).bind fun r15 => (if ((bAnd (bOr x4 r15) p1_set) == x4) = true then some (Sum.inr x4) else some (Sum.inl (bAnd (bOr x4 r15) p1_set))))

def S_impl_partOf (F : Nat) (p0_g_Size : Int) (p0_g_Rows : List Int) (p1_set : Int) (p2_from : Int) : Option (Int) :=
  (loopN (σ := Int) (β := Int) (fun s => S_impl_partOf_l1 F p0_g_Size p0_g_Rows p1_set s) F p2_from).bind (fun b => some b)

def S_impl_parts_j1 (F : Nat) (l34 : List Int) : Option ((List (Int))) :=
  some l34

def S_impl_parts_l2 (F : Nat) (p0_g_Size : Int) (p0_g_Rows : List Int) (x36 : Int) (l38 : List Int) : Option ((Int × (List Int)) ⊕ (((List Int)))) :=
  (if (x36 != 0) = true then ((S_impl_partOf F p0_g_Size p0_g_Rows x36 (bAnd x36 (IntKind.i64.wrap (0 - x36)))).bind fun r55 => ((catO l38.length ([r55] : List (Int)).length).bind fun _ => some (Sum.inl ((bAndNot x36 r55), (l38 ++ ([r55] : List (Int))))))) else some (Sum.inr l38))

def S_impl_parts (F : Nat) (p0_g_Size : Int) (p0_g_Rows : List Int) (p1_set : Int) : Option ((List (Int))) :=
  (loopN (σ := (Int × (List Int))) (β := (((List Int)))) (fun s => S_impl_parts_l2 F p0_g_Size p0_g_Rows s.1 s.2) F (p1_set, ([] : List (Int)))).bind (fun b => S_impl_parts_j1 F b)

def S_impl_all (F : Nat) (p0_g_Size : Int) (p0_g_Rows : List Int) : Option (Int) :=
  ((nnO p0_g_Size).bind fun _ => some (IntKind.i64.wrap ((shL 1 p0_g_Size) - 1)))

def S_impl_IsConnected_j1 (F : Nat) (p9 : Bool) : Option (Bool) :=
  some p9

def S_impl_IsConnected (F : Nat) (p0_g_Size : Int) (p0_g_Rows : List Int) : Option (Bool) :=
  ((S_impl_IsGraph F p0_g_Size p0_g_Rows).bind fun r10 => (if r10 = true then ((S_impl_all F p0_g_Size p0_g_Rows).bind fun r11 => ((S_impl_parts F p0_g_Size p0_g_Rows r11).bind fun r12 => S_impl_IsConnected_j1 F ((r12.length : Int) == 1))) else S_impl_IsConnected_j1 F false))

def S_spec_AroundSet_j1 (F : Nat) (x36 : Int) : Option (Int) :=
  some x36

def S_spec_AroundSet_j3 (F : Nat) (x40 : Int) (x56 : Int) : Option ((Int × Int) ⊕ (Int)) :=
  some (Sum.inl (x56, (IntKind.i64.wrap (x40 + 1))))

def S_spec_AroundSet_l2 (F : Nat) (p0_g_Size : Int) (p0_g_Rows : List Int) (p1_set : Int) (x39 : Int) (x40 : Int) : Option ((Int × Int) ⊕ (Int)) :=
  (if (decide (x40 < p0_g_Size)) = true then ((nnO x40).bind fun _ => (if ((bAnd (shR p1_set x40) 1) == 1) = true then ((idxL p0_g_Rows x40).bind fun x58 => S_spec_AroundSet_j3 F x40 (bOr x39 x58)) else S_spec_AroundSet_j3 F x40 x39)) else some (Sum.inr x39))

def S_spec_AroundSet (F : Nat) (p0_g_Size : Int) (p0_g_Rows : List Int) (p1_set : Int) : Option (Int) :=
  ((S_spec_IsSet F p0_g_Size p0_g_Rows p1_set).bind fun r11 => (if (!r11) = true then some 0 else (loopN (σ := (Int × Int)) (β := Int) (fun s => S_spec_AroundSet_l2 F p0_g_Size p0_g_Rows p1_set s.1 s.2) F (p1_set, 0)).bind (fun b => S_spec_AroundSet_j1 F b)))

def S_spec_DistanceOf_j2 (F : Nat) : Option (Int) :=
  some (-1)

def S_spec_DistanceOf_l3 (F : Nat) (p0_g_Size : Int) (p0_g_Rows : List Int) (p2_w : Int) (x53 : Int) (x54 : Int) : Option ((Int × Int) ⊕ (Unit ⊕ Int)) :=
  (if (decide (x54 < p0_g_Size)) = true then ((nnO p2_w).bind fun _ => (if ((bAnd (shR x53 p2_w) 1) == 1) = true then some (Sum.inr (Sum.inr x54)) else ((S_spec_AroundSet F p0_g_Size p0_g_Rows x53).bind fun r86 => some (Sum.inl (r86, (IntKind.i64.wrap (x54 + 1))))))) else some (Sum.inr (Sum.inl ())))

def S_spec_DistanceOf_j1 (F : Nat) (p0_g_Size : Int) (p0_g_Rows : List Int) (p1_v : Int) (p2_w : Int) (p12 : Bool) : Option (Int) :=
  (if p12 = true then some (-1) else ((nnO p1_v).bind fun _ => (loopN (σ := (Int × Int)) (β := (Unit ⊕ Int)) (fun s => S_spec_DistanceOf_l3 F p0_g_Size p0_g_Rows p2_w s.1 s.2) F ((shL 1 p1_v), 0)).bind (fun b => (match b with | .inl o => S_spec_DistanceOf_j2 F | .inr o => some o))))

def S_spec_DistanceOf (F : Nat) (p0_g_Size : Int) (p0_g_Rows : List Int) (p1_v : Int) (p2_w : Int) : Option (Int) :=
  ((S_spec_IsGraph F p0_g_Size p0_g_Rows).bind fun r87 => (if (!r87) = true then S_spec_DistanceOf_j1 F p0_g_Size p0_g_Rows p1_v p2_w true else (if (decide (p1_v < 0)) = true then S_spec_DistanceOf_j1 F p0_g_Size p0_g_Rows p1_v p2_w true else (if (decide (p2_w < 0)) = true then S_spec_DistanceOf_j1 F p0_g_Size p0_g_Rows p1_v p2_w true else (if (decide (p0_g_Size ≤ p1_v)) = true then S_spec_DistanceOf_j1 F p0_g_Size p0_g_Rows p1_v p2_w true else S_spec_DistanceOf_j1 F p0_g_Size p0_g_Rows p1_v p2_w (decide (p0_g_Size ≤ p2_w)))))))

def S_impl_HasEdge_j1 (F : Nat) (p9 : Bool) : Option (Bool) :=
  some p9

def S_impl_HasEdge (F : Nat) (p0_g_Size : Int) (p0_g_Rows : List Int) (p1_v : Int) (p2_w : Int) : Option (Bool) :=
  ((S_impl_isVertex F p0_g_Size p0_g_Rows ([p1_v, p2_w] : List (Int))).bind fun r11 => (if r11 = true then ((idxL p0_g_Rows p1_v).bind fun x12 => ((S_impl_has F x12 p2_w).bind fun r13 => S_impl_HasEdge_j1 F r13)) else S_impl_HasEdge_j1 F false))

def S_spec_IsOrder_j1 (F : Nat) (p6 : Bool) : Option (Bool) :=
  some p6

def S_spec_IsOrder (F : Nat) (p0_g_Size : Int) (p0_g_Rows : List Int) (p1_l : List Int) : Option (Bool) :=
  ((S_spec_l4Distinct F p0_g_Size p0_g_Rows p1_l).bind fun r7 => (if r7 = true then S_spec_IsOrder_j1 F ((p1_l.length : Int) == p0_g_Size) else S_spec_IsOrder_j1 F false))

def S_spec_IsLexOrder_j1 (F : Nat) : Option (Bool) :=
  some true

def S_spec_IsLexOrder_j3 (F : Nat) (x290 : Int) : Option ((Int) ⊕ (Unit ⊕ Bool)) :=
  some (Sum.inl (IntKind.i64.wrap (x290 + 1)))

def S_spec_IsLexOrder_l4 (F : Nat) (p0_g_Size : Int) (p0_g_Rows : List Int) (p1_l : List Int) (x290 : Int) (x498 : Int) : Option ((Int) ⊕ (Unit ⊕ Bool)) :=
  (if (decide (x498 < (p1_l.length : Int))) = true then ((slO p1_l.length x290).bind fun _ => ((idxL p1_l x498).bind fun x557 => ((slO p1_l.length x290).bind fun _ => ((idxL p1_l x290).bind fun x559 => ((S_spec_l5Label F p0_g_Size p0_g_Rows (p1_l.take (x290.toNat)) x557).bind fun r560 => ((S_spec_l5Label F p0_g_Size p0_g_Rows (p1_l.take (x290.toNat)) x559).bind fun r561 => (if (decide (r561 < r560)) = true then some (Sum.inr (Sum.inr false)) else some (Sum.inl (IntKind.i64.wrap (x498 + 1)))))))))) else some (Sum.inr (Sum.inl ())))

def S_spec_IsLexOrder_l2 (F : Nat) (p0_g_Size : Int) (p0_g_Rows : List Int) (p1_l : List Int) (x290 : Int) : Option ((Int) ⊕ (Unit ⊕ Bool)) :=
  (if (decide (x290 < (p1_l.length : Int))) = true then (loopN (σ := Int) (β := (Unit ⊕ Bool)) (fun s => S_spec_IsLexOrder_l4 F p0_g_Size p0_g_Rows p1_l x290 s) F (IntKind.i64.wrap (x290 + 1))).bind (fun b => (match b with | .inl o => S_spec_IsLexOrder_j3 F x290 | .inr o => some (Sum.inr (Sum.inr o)))) else some (Sum.inr (Sum.inl ())))

def S_spec_IsLexOrder (F : Nat) (p0_g_Size : Int) (p0_g_Rows : List Int) (p1_l : List Int) : Option (Bool) :=
  ((S_spec_IsOrder F p0_g_Size p0_g_Rows p1_l).bind fun r11 => (if (!r11) = true then some false else (loopN (σ := Int) (β := (Unit ⊕ Bool)) (fun s => S_spec_IsLexOrder_l2 F p0_g_Size p0_g_Rows p1_l s) F 1).bind (fun b => (match b with | .inl o => S_spec_IsLexOrder_j1 F | .inr o => some o))))

def S_spec_l3Grow_j1 (F : Nat) (x21 : Int) : Option (Int) :=
  some x21

def S_spec_l3Grow_l2 (F : Nat) (p0_g_Size : Int) (p0_g_Rows : List Int) (p2_set : Int) (x24 : Int) (x25 : Int) : Option ((Int × Int) ⊕ (Int)) :=
  (if (decide (x25 < p0_g_Size)) = true then ((S_spec_AroundSet F p0_g_Size p0_g_Rows x24).bind fun r37 => some (Sum.inl ((bAnd r37 p2_set), (IntKind.i64.wrap (x25 + 1))))) else some (Sum.inr x24))

def S_spec_l3Grow (F : Nat) (p0_g_Size : Int) (p0_g_Rows : List Int) (p1_from : Int) (p2_set : Int) : Option (Int) :=
  (loopN (σ := (Int × Int)) (β := Int) (fun s => S_spec_l3Grow_l2 F p0_g_Size p0_g_Rows p2_set s.1 s.2) F (p1_from, 0)).bind (fun b => S_spec_l3Grow_j1 F b)

def S_spec_PartsOf_j1 (F : Nat) (l61 : List Int) : Option ((List (Int))) :=
  some l61

def S_spec_PartsOf_j3 (F : Nat) (p0_g_Size : Int) (p0_g_Rows : List Int) (p1_set : Int) (l64 : List Int) (x65 : Int) (p97 : Bool) : Option (((List Int) × Int) ⊕ (((List Int)))) :=
  (if p97 = true then ((S_spec_ListOf F x65).bind fun r102 => ((idxL r102 0).bind fun x104 => ((nnO x104).bind fun _ => ((S_spec_l3Grow F p0_g_Size p0_g_Rows (shL 1 x104) p1_set).bind fun r107 => ((catO l64.length ([r107] : List (Int)).length).bind fun _ => some (Sum.inl ((l64 ++ ([r107] : List (Int))), (IntKind.i64.wrap (x65 - r107))))))))) else some (Sum.inr l64))

def S_spec_PartsOf_l2 (F : Nat) (p0_g_Size : Int) (p0_g_Rows : List Int) (p1_set : Int) (l64 : List Int) (x65 : Int) : Option (((List Int) × Int) ⊕ (((List Int)))) :=
  (if (decide ((0 : Int) < x65)) = true then ((S_spec_IsSet F p0_g_Size p0_g_Rows p1_set).bind fun r113 => S_spec_PartsOf_j3 F p0_g_Size p0_g_Rows p1_set l64 x65 r113) else S_spec_PartsOf_j3 F p0_g_Size p0_g_Rows p1_set l64 x65 false)

def S_spec_PartsOf (F : Nat) (p0_g_Size : Int) (p0_g_Rows : List Int) (p1_set : Int) : Option ((List (Int))) :=
  (loopN (σ := ((List Int) × Int)) (β := (((List Int)))) (fun s => S_spec_PartsOf_l2 F p0_g_Size p0_g_Rows p1_set s.1 s.2) F (([] : List (Int)), p1_set)).bind (fun b => S_spec_PartsOf_j1 F b)

def S_spec_IsConnected_j1 (F : Nat) (p8 : Bool) : Option (Bool) :=
  some p8

def S_spec_IsConnected (F : Nat) (p0_g_Size : Int) (p0_g_Rows : List Int) : Option (Bool) :=
  ((S_spec_IsGraph F p0_g_Size p0_g_Rows).bind fun r9 => (if r9 = true then ((nnO p0_g_Size).bind fun _ => ((S_spec_PartsOf F p0_g_Size p0_g_Rows (IntKind.i64.wrap ((shL 1 p0_g_Size) - 1))).bind fun r10 => S_spec_IsConnected_j1 F ((r10.length : Int) == 1))) else S_spec_IsConnected_j1 F false))

end Go.Proofs.Ytilfniehellmmaa
