/- Proved here: nothing but what each Go function of the seat computes, as printed by my translator -/
import Derived.Test.YtdalcpadcggklaaDoorK12
namespace Go.Proofs.YtdalcpadcggklaaDoor
open Go Go.RowKit
set_option linter.unusedVariables false
set_option linter.unusedSimpArgs false
set_option maxRecDepth 100000
set_option maxHeartbeats 40000000

def S_spec_l1In_j1 (F : Nat) (p3 : Bool) : Option (Bool) :=
  some p3

def S_spec_l1In (F : Nat) (p0_x : Int) (p1_low : Int) (p2_high : Int) : Option (Bool) :=
  (if (decide (p1_low ≤ p0_x)) = true then S_spec_l1In_j1 F (decide (p0_x ≤ p2_high)) else S_spec_l1In_j1 F false)

def S_spec_IsGraph_j2 (F : Nat) : Option (Bool) :=
  some true

def S_spec_IsGraph_j4 (F : Nat) (x319 : Int) : Option ((Int) ⊕ (Unit ⊕ Bool)) :=
  some (Sum.inl (IntKind.i64.wrap (x319 + 1)))

def S_spec_IsGraph_j7 (F : Nat) (x564 : Int) (p611 : Bool) : Option ((Int) ⊕ (Unit ⊕ Bool)) :=
  (if p611 = true then some (Sum.inr (Sum.inr false)) else some (Sum.inl (IntKind.i64.wrap (x564 + 1))))

def S_spec_IsGraph_l6 (F : Nat) (p0_g_Size : Int) (p0_g_Rows : List Int) (x319 : Int) (x564 : Int) : Option ((Int) ⊕ (Unit ⊕ Bool)) :=
  (if (decide (x564 < p0_g_Size)) = true then ((idxL p0_g_Rows x319).bind fun x613 => ((nnO x564).bind fun _ => (if ((bAnd (shR x613 x564) 1) == 1) = true then ((idxL p0_g_Rows x564).bind fun x614 => (if (decide (x614 < 0)) = true then S_spec_IsGraph_j7 F x564 true else ((idxL p0_g_Rows x564).bind fun x615 => ((nnO p0_g_Size).bind fun _ => (if (decide ((shL 1 p0_g_Size) ≤ x615)) = true then S_spec_IsGraph_j7 F x564 true else ((idxL p0_g_Rows x564).bind fun x616 => ((nnO x319).bind fun _ => S_spec_IsGraph_j7 F x564 ((bAnd (shR x616 x319) 1) == 0)))))))) else S_spec_IsGraph_j7 F x564 false))) else some (Sum.inr (Sum.inl ())))

def S_spec_IsGraph_j5 (F : Nat) (p0_g_Size : Int) (p0_g_Rows : List Int) (x319 : Int) (p561 : Bool) : Option ((Int) ⊕ (Unit ⊕ Bool)) :=
  (if p561 = true then some (Sum.inr (Sum.inr false)) else (loopN (σ := Int) (β := (Unit ⊕ Bool)) (fun s => S_spec_IsGraph_l6 F p0_g_Size p0_g_Rows x319 s) F 0).bind (fun b => (match b with | .inl o => S_spec_IsGraph_j4 F x319 | .inr o => some (Sum.inr (Sum.inr o)))))

def S_spec_IsGraph_l3 (F : Nat) (p0_g_Size : Int) (p0_g_Rows : List Int) (x319 : Int) : Option ((Int) ⊕ (Unit ⊕ Bool)) :=
  (if (decide (x319 < p0_g_Size)) = true then ((idxL p0_g_Rows x319).bind fun x617 => (if (decide (x617 < 0)) = true then S_spec_IsGraph_j5 F p0_g_Size p0_g_Rows x319 true else ((idxL p0_g_Rows x319).bind fun x618 => ((nnO p0_g_Size).bind fun _ => (if (decide ((shL 1 p0_g_Size) ≤ x618)) = true then S_spec_IsGraph_j5 F p0_g_Size p0_g_Rows x319 true else ((idxL p0_g_Rows x319).bind fun x619 => ((nnO x319).bind fun _ => S_spec_IsGraph_j5 F p0_g_Size p0_g_Rows x319 ((bAnd (shR x619 x319) 1) == 1)))))))) else some (Sum.inr (Sum.inl ())))

def S_spec_IsGraph_j1 (F : Nat) (p0_g_Size : Int) (p0_g_Rows : List Int) (p12 : Bool) : Option (Bool) :=
  (if p12 = true then some false else (loopN (σ := Int) (β := (Unit ⊕ Bool)) (fun s => S_spec_IsGraph_l3 F p0_g_Size p0_g_Rows s) F 0).bind (fun b => (match b with | .inl o => S_spec_IsGraph_j2 F | .inr o => some o)))

def S_spec_IsGraph (F : Nat) (p0_g_Size : Int) (p0_g_Rows : List Int) : Option (Bool) :=
  ((S_spec_l1In F p0_g_Size 1 7).bind fun r620 => (if (!r620) = true then S_spec_IsGraph_j1 F p0_g_Size p0_g_Rows true else S_spec_IsGraph_j1 F p0_g_Size p0_g_Rows ((p0_g_Rows.length : Int) != p0_g_Size)))

def S_spec_ComplementOf_j1 (F : Nat) (p0_g_Size : Int) (l61 : List Int) : Option (Int × (List (Int)) × Bool) :=
  some (p0_g_Size, l61, true)

def S_spec_ComplementOf_j3 (F : Nat) (x79 : Int) (l100 : List Int) : Option (((List Int) × Int) ⊕ (((List Int)))) :=
  some (Sum.inl (l100, (IntKind.i64.wrap (x79 + 1))))

def S_spec_ComplementOf_l2 (F : Nat) (p0_g_Size : Int) (p0_g_Rows : List Int) (l78 : List Int) (x79 : Int) : Option (((List Int) × Int) ⊕ (((List Int)))) :=
  (if (decide (x79 < p0_g_Size)) = true then ((nnO p0_g_Size).bind fun _ => ((idxL p0_g_Rows x79).bind fun x101 => ((nnO x79).bind fun _ => ((catO l78.length ([(IntKind.i64.wrap ((IntKind.i64.wrap ((IntKind.i64.wrap ((shL 1 p0_g_Size) - 1)) - x101)) - (shL 1 x79)))] : List (Int)).length).bind fun _ => S_spec_ComplementOf_j3 F x79 (l78 ++ ([(IntKind.i64.wrap ((IntKind.i64.wrap ((IntKind.i64.wrap ((shL 1 p0_g_Size) - 1)) - x101)) - (shL 1 x79)))] : List (Int))))))) else some (Sum.inr l78))

def S_spec_ComplementOf (F : Nat) (p0_g_Size : Int) (p0_g_Rows : List Int) : Option (Int × (List (Int)) × Bool) :=
  ((S_spec_IsGraph F p0_g_Size p0_g_Rows).bind fun r13 => (if (!r13) = true then some (0, ([] : List (Int)), false) else (loopN (σ := ((List Int) × Int)) (β := (((List Int)))) (fun s => S_spec_ComplementOf_l2 F p0_g_Size p0_g_Rows s.1 s.2) F (([] : List (Int)), 0)).bind (fun b => S_spec_ComplementOf_j1 F p0_g_Size b)))

def S_spec_EqualGraphs_j2 (F : Nat) : Option (Bool) :=
  some true

def S_spec_EqualGraphs_l3 (F : Nat) (p0_a_Rows : List Int) (p1_b_Rows : List Int) (x50 : Int) : Option ((Int) ⊕ (Unit ⊕ Bool)) :=
  (if (decide (x50 < (p0_a_Rows.length : Int))) = true then ((idxL p0_a_Rows x50).bind fun x80 => ((idxL p1_b_Rows x50).bind fun x81 => (if (x80 != x81) = true then some (Sum.inr (Sum.inr false)) else some (Sum.inl (IntKind.i64.wrap (x50 + 1)))))) else some (Sum.inr (Sum.inl ())))

def S_spec_EqualGraphs_j1 (F : Nat) (p0_a_Rows : List Int) (p1_b_Rows : List Int) (p11 : Bool) : Option (Bool) :=
  (if p11 = true then some false else (loopN (σ := Int) (β := (Unit ⊕ Bool)) (fun s => S_spec_EqualGraphs_l3 F p0_a_Rows p1_b_Rows s) F 0).bind (fun b => (match b with | .inl o => S_spec_EqualGraphs_j2 F | .inr o => some o)))

def S_spec_EqualGraphs (F : Nat) (p0_a_Size : Int) (p0_a_Rows : List Int) (p1_b_Size : Int) (p1_b_Rows : List Int) : Option (Bool) :=
  (if (p0_a_Size != p1_b_Size) = true then S_spec_EqualGraphs_j1 F p0_a_Rows p1_b_Rows true else S_spec_EqualGraphs_j1 F p0_a_Rows p1_b_Rows ((p0_a_Rows.length : Int) != (p1_b_Rows.length : Int)))

def S_impl_within_j1 (F : Nat) (p3 : Bool) : Option (Bool) :=
  some p3

def S_impl_within (F : Nat) (p0_n : Int) (p1_low : Int) (p2_high : Int) : Option (Bool) :=
  (if (decide (p1_low ≤ p0_n)) = true then S_impl_within_j1 F (decide (p0_n ≤ p2_high)) else S_impl_within_j1 F false)

def S_impl_has (F : Nat) (p0_set : Int) (p1_v : Int) : Option (Bool) :=
  ((nnO p1_v).bind fun _ => some ((bAnd (shR p0_set p1_v) 1) == 1))

def S_impl_IsGraph_j3 (F : Nat) : Option (Bool) :=
  some true

def S_impl_IsGraph_j5 (F : Nat) (x262 : Int) : Option ((Int) ⊕ (Unit ⊕ Bool)) :=
  some (Sum.inl (IntKind.i64.wrap (x262 + 1)))

def S_impl_IsGraph_l6 (F : Nat) (p0_g_Rows : List Int) (x262 : Int) (x412 : Int) (x414 : Int) : Option ((Int) ⊕ (Unit ⊕ Bool)) :=
  (if (decide (x414 < x262)) = true then ((idxL p0_g_Rows x414).bind fun x453 => ((S_impl_has F x412 x414).bind fun r454 => ((S_impl_has F x453 x262).bind fun r455 => (if (r454 != r455) = true then some (Sum.inr (Sum.inr false)) else some (Sum.inl (IntKind.i64.wrap (x414 + 1))))))) else some (Sum.inr (Sum.inl ())))

def S_impl_IsGraph_l4 (F : Nat) (p0_g_Rows : List Int) (x262 : Int) : Option ((Int) ⊕ (Unit ⊕ Bool)) :=
  (if (decide (x262 < (p0_g_Rows.length : Int))) = true then ((idxL p0_g_Rows x262).bind fun x412 => (loopN (σ := Int) (β := (Unit ⊕ Bool)) (fun s => S_impl_IsGraph_l6 F p0_g_Rows x262 x412 s) F 0).bind (fun b => (match b with | .inl o => S_impl_IsGraph_j5 F x262 | .inr o => some (Sum.inr (Sum.inr o))))) else some (Sum.inr (Sum.inl ())))

def S_impl_IsGraph_j2 (F : Nat) (p0_g_Rows : List Int) : Option (Bool) :=
  (loopN (σ := Int) (β := (Unit ⊕ Bool)) (fun s => S_impl_IsGraph_l4 F p0_g_Rows s) F 0).bind (fun b => (match b with | .inl o => S_impl_IsGraph_j3 F | .inr o => some o))

def S_impl_IsGraph_j8 (F : Nat) (x458 : Int) (p501 : Bool) : Option ((Int) ⊕ (Unit ⊕ Bool)) :=
  (if p501 = true then some (Sum.inr (Sum.inr false)) else some (Sum.inl (IntKind.i64.wrap (x458 + 1))))

def S_impl_IsGraph_l7 (F : Nat) (p0_g_Size : Int) (p0_g_Rows : List Int) (x458 : Int) : Option ((Int) ⊕ (Unit ⊕ Bool)) :=
  (if (decide (x458 < (p0_g_Rows.length : Int))) = true then ((idxL p0_g_Rows x458).bind fun x497 => ((nnO p0_g_Size).bind fun _ => ((S_impl_within F x497 0 (IntKind.i64.wrap ((shL 1 p0_g_Size) - 1))).bind fun r503 => (if (!r503) = true then S_impl_IsGraph_j8 F x458 true else ((S_impl_has F x497 x458).bind fun r504 => S_impl_IsGraph_j8 F x458 r504))))) else some (Sum.inr (Sum.inl ())))

def S_impl_IsGraph_j1 (F : Nat) (p0_g_Size : Int) (p0_g_Rows : List Int) (p12 : Bool) : Option (Bool) :=
  (if p12 = true then some false else (loopN (σ := Int) (β := (Unit ⊕ Bool)) (fun s => S_impl_IsGraph_l7 F p0_g_Size p0_g_Rows s) F 0).bind (fun b => (match b with | .inl o => S_impl_IsGraph_j2 F p0_g_Rows | .inr o => some o)))

def S_impl_IsGraph (F : Nat) (p0_g_Size : Int) (p0_g_Rows : List Int) : Option (Bool) :=
  ((S_impl_within F p0_g_Size 1 7).bind fun r505 => (if (!r505) = true then S_impl_IsGraph_j1 F p0_g_Size p0_g_Rows true else S_impl_IsGraph_j1 F p0_g_Size p0_g_Rows ((p0_g_Rows.length : Int) != p0_g_Size)))

def S_impl_EdgesOf_j1 (F : Nat) (l220 : List (List Int)) : Option ((List (List Int))) :=
  some l220

def S_impl_EdgesOf_j3 (F : Nat) (x226 : Int) (l376 : List (List Int)) : Option (((List (List Int)) × Int) ⊕ (((List (List Int))))) :=
  some (Sum.inl (l376, (IntKind.i64.wrap (x226 + 1))))

def S_impl_EdgesOf_j5 (F : Nat) (x384 : Int) (l416 : List (List Int)) : Option (((List (List Int)) × Int) ⊕ (((List (List Int))))) :=
  some (Sum.inl (l416, (IntKind.i64.wrap (x384 + 1))))

def S_impl_EdgesOf_l4 (F : Nat) (p0_g_Size : Int) (x226 : Int) (x379 : Int) (l383 : List (List Int)) (x384 : Int) : Option (((List (List Int)) × Int) ⊕ (((List (List Int))))) :=
  (if (decide (x384 < p0_g_Size)) = true then ((S_impl_has F x379 x384).bind fun r419 => (if r419 = true then ((catO l383.length ([([x226, x384] : List (Int))] : List (List Int)).length).bind fun _ => S_impl_EdgesOf_j5 F x384 (l383 ++ ([([x226, x384] : List (Int))] : List (List Int)))) else S_impl_EdgesOf_j5 F x384 l383)) else some (Sum.inr l383))

def S_impl_EdgesOf_l2 (F : Nat) (p0_g_Size : Int) (p0_g_Rows : List Int) (l225 : List (List Int)) (x226 : Int) : Option (((List (List Int)) × Int) ⊕ (((List (List Int))))) :=
  (if (decide (x226 < (p0_g_Rows.length : Int))) = true then ((idxL p0_g_Rows x226).bind fun x379 => (loopN (σ := ((List (List Int)) × Int)) (β := (((List (List Int))))) (fun s => S_impl_EdgesOf_l4 F p0_g_Size x226 x379 s.1 s.2) F (l225, (IntKind.i64.wrap (x226 + 1)))).bind (fun b => S_impl_EdgesOf_j3 F x226 b)) else some (Sum.inr l225))

def S_impl_EdgesOf (F : Nat) (p0_g_Size : Int) (p0_g_Rows : List Int) : Option ((List (List Int))) :=
  ((S_impl_IsGraph F p0_g_Size p0_g_Rows).bind fun r14 => (if (!r14) = true then some ([] : List (List Int)) else (loopN (σ := ((List (List Int)) × Int)) (β := (((List (List Int))))) (fun s => S_impl_EdgesOf_l2 F p0_g_Size p0_g_Rows s.1 s.2) F (([] : List (List Int)), 0)).bind (fun b => S_impl_EdgesOf_j1 F b)))

def S_spec_l1New_j1 (F : Nat) (x23 : Int) : Option (Int × Int) :=
  some (0, x23)

def S_spec_l1New_j3 (F : Nat) (p0_code : List Int) (x28 : Int) (x29 : Int) (p42 : Bool) : Option ((Int × Int) ⊕ (Int)) :=
  (if p42 = true then ((idxL p0_code x29).bind fun x45 => some (Sum.inl ((bAnd (IntKind.i64.wrap ((IntKind.i64.wrap ((IntKind.i64.wrap (x28 * 131)) + (IntKind.i64.wrap x45))) + 7)) 1073741823), (IntKind.i64.wrap (x29 + 1))))) else some (Sum.inr x28))

def S_spec_l1New_l2 (F : Nat) (p0_code : List Int) (x28 : Int) (x29 : Int) : Option ((Int × Int) ⊕ (Int)) :=
  (if (decide (x29 < (p0_code.length : Int))) = true then S_spec_l1New_j3 F p0_code x28 x29 (decide (x29 < 4000)) else S_spec_l1New_j3 F p0_code x28 x29 false)

def S_spec_l1New (F : Nat) (p0_code : List Int) : Option (Int × Int) :=
  (loopN (σ := (Int × Int)) (β := Int) (fun s => S_spec_l1New_l2 F p0_code s.1 s.2) F ((IntKind.i64.wrap (10101 + (p0_code.length : Int))), 0)).bind (fun b => S_spec_l1New_j1 F b)

def S_spec_l1Byte_j1 (F : Nat) (p0_c_h : Int) (x9 : Int) (x10 : Int) : Option (Int × Int × Int) :=
  some (x9, x10, (IntKind.i64.wrap ((IntKind.i64.wrap (p0_c_h * 6364136223846793005)) + 1442695040888963407)))

def S_spec_l1Byte (F : Nat) (p0_c_b : List Int) (p0_c_i : Int) (p0_c_h : Int) : Option (Int × Int × Int) :=
  (if (decide (p0_c_i < (p0_c_b.length : Int))) = true then ((idxL p0_c_b p0_c_i).bind fun x15 => S_spec_l1Byte_j1 F p0_c_h (bAnd (IntKind.i64.wrap ((bAnd (bXor (shR (IntKind.i64.wrap ((IntKind.i64.wrap (p0_c_h * 6364136223846793005)) + 1442695040888963407)) 33) (shR (IntKind.i64.wrap ((IntKind.i64.wrap (p0_c_h * 6364136223846793005)) + 1442695040888963407)) 45)) 255) + (IntKind.i64.wrap x15))) 255) (IntKind.i64.wrap (p0_c_i + 1))) else S_spec_l1Byte_j1 F p0_c_h (bAnd (bXor (shR (IntKind.i64.wrap ((IntKind.i64.wrap (p0_c_h * 6364136223846793005)) + 1442695040888963407)) 33) (shR (IntKind.i64.wrap ((IntKind.i64.wrap (p0_c_h * 6364136223846793005)) + 1442695040888963407)) 45)) 255) p0_c_i)

def S_spec_l1Below (F : Nat) (p0_c_b : List Int) (p0_c_i : Int) (p0_c_h : Int) (p1_n : Int) : Option (Int × Int × Int) :=
  (if (decide (p1_n ≤ 0)) = true then some (0, p0_c_i, p0_c_h) else (if (decide (p1_n ≤ 256)) = true then ((S_spec_l1Byte F p0_c_b p0_c_i p0_c_h).bind fun r15 => ((nzO p1_n).bind fun _ => some ((r15.1.tmod p1_n), r15.2.1, r15.2.2))) else ((S_spec_l1Byte F p0_c_b p0_c_i p0_c_h).bind fun r18 => ((S_spec_l1Byte F p0_c_b r18.2.1 r18.2.2).bind fun r21 => ((S_spec_l1Byte F p0_c_b r21.2.1 r21.2.2).bind fun r24 => ((S_spec_l1Byte F p0_c_b r24.2.1 r24.2.2).bind fun r27 => ((nzO p1_n).bind fun _ => some (((IntKind.i64.wrap ((IntKind.i64.wrap ((IntKind.i64.wrap ((IntKind.i64.wrap (r18.1 * 16777216)) + (IntKind.i64.wrap (r21.1 * 65536)))) + (IntKind.i64.wrap (r24.1 * 256)))) + r27.1)).tmod p1_n), r27.2.1, r27.2.2))))))))

def S_spec_l1PickInt (F : Nat) (p0_c_b : List Int) (p0_c_i : Int) (p0_c_h : Int) (p1_list : List Int) : Option (Int × Int × Int) :=
  ((S_spec_l1Below F p0_c_b p0_c_i p0_c_h (p1_list.length : Int)).bind fun r5 => ((idxL p1_list r5.1).bind fun x6 => some (x6, r5.2.1, r5.2.2)))

def S_spec_l2Edge (F : Nat) (p0_g_Size : Int) (p0_g_Rows : List Int) (p1_v : Int) (p2_w : Int) : Option (Bool) :=
  ((idxL p0_g_Rows p1_v).bind fun x6 => ((nnO p2_w).bind fun _ => some ((bAnd (shR x6 p2_w) 1) == 1)))

def S_spec_l2Copy (F : Nat) (p0_g_Size : Int) (p0_g_Rows : List Int) : Option (Int × (List (Int))) :=
  ((catO ([] : List (Int)).length p0_g_Rows.length).bind fun _ => some (p0_g_Size, (([] : List (Int)) ++ p0_g_Rows)))

def S_spec_l2Pair_j1 (F : Nat) (p6 : Bool) : Option (Bool) :=
  some p6

def S_spec_l2Pair (F : Nat) (p0_g_Size : Int) (p0_g_Rows : List Int) (p1_v : Int) (p2_w : Int) : Option (Bool) :=
  ((S_spec_IsGraph F p0_g_Size p0_g_Rows).bind fun r7 => (if r7 = true then (if (decide ((0 : Int) ≤ p1_v)) = true then (if (decide ((0 : Int) ≤ p2_w)) = true then (if (decide (p1_v < p0_g_Size)) = true then (if (decide (p2_w < p0_g_Size)) = true then S_spec_l2Pair_j1 F (p1_v != p2_w) else S_spec_l2Pair_j1 F false) else S_spec_l2Pair_j1 F false) else S_spec_l2Pair_j1 F false) else S_spec_l2Pair_j1 F false) else S_spec_l2Pair_j1 F false))

def S_spec_AddEdge_j1 (F : Nat) (p1_v : Int) (p2_w : Int) (r10 : Int × (List (Int))) (p24 : Bool) : Option (Int × (List (Int)) × Bool) :=
  (if p24 = true then some (r10.1, r10.2, false) else ((idxL r10.2 p1_v).bind fun x29 => ((nnO p2_w).bind fun _ => ((idxL r10.2 p1_v).bind fun x30 => ((idxL (r10.2.set (p1_v.toNat) (IntKind.i64.wrap (x29 + (shL 1 p2_w)))) p2_w).bind fun x34 => ((nnO p1_v).bind fun _ => ((idxL (r10.2.set (p1_v.toNat) (IntKind.i64.wrap (x29 + (shL 1 p2_w)))) p2_w).bind fun x35 => some (r10.1, ((r10.2.set (p1_v.toNat) (IntKind.i64.wrap (x29 + (shL 1 p2_w)))).set (p2_w.toNat) (IntKind.i64.wrap (x34 + (shL 1 p1_v)))), true))))))))

def S_spec_AddEdge (F : Nat) (p0_g_Size : Int) (p0_g_Rows : List Int) (p1_v : Int) (p2_w : Int) : Option (Int × (List (Int)) × Bool) :=
  ((S_spec_l2Copy F p0_g_Size p0_g_Rows).bind fun r10 => ((S_spec_l2Pair F p0_g_Size p0_g_Rows p1_v p2_w).bind fun r37 => (if (!r37) = true then S_spec_AddEdge_j1 F p1_v p2_w r10 true else ((S_spec_l2Edge F p0_g_Size p0_g_Rows p1_v p2_w).bind fun r38 => S_spec_AddEdge_j1 F p1_v p2_w r10 r38))))

def S_spec_NamedGraph_j2 (F : Nat) (x1000 : Int) (l1002 : List Int) (p1008 : Bool) : Option (Int × (List (Int)) × Bool) :=
  (if p1008 = true then some (0, ([] : List (Int)), false) else some (x1000, l1002, true))

def S_spec_NamedGraph_j1 (F : Nat) (p0_name : List UInt8) (p1_n : Int) (x1000 : Int) (l1002 : List Int) : Option (Int × (List (Int)) × Bool) :=
  (if (p1_n == 1) = true then (if (p0_name != ([112, 97, 116, 104] : List UInt8)) = true then (if (p0_name != ([99, 121, 99, 108, 101] : List UInt8)) = true then (if (p0_name != ([99, 111, 109, 112, 108, 101, 116, 101] : List UInt8)) = true then (if (p0_name != ([115, 116, 97, 114] : List UInt8)) = true then (if (p0_name != ([119, 104, 101, 101, 108] : List UInt8)) = true then S_spec_NamedGraph_j2 F x1000 l1002 (p0_name != ([101, 109, 112, 116, 121] : List UInt8)) else S_spec_NamedGraph_j2 F x1000 l1002 false) else S_spec_NamedGraph_j2 F x1000 l1002 false) else S_spec_NamedGraph_j2 F x1000 l1002 false) else S_spec_NamedGraph_j2 F x1000 l1002 false) else S_spec_NamedGraph_j2 F x1000 l1002 false) else S_spec_NamedGraph_j2 F x1000 l1002 false)

def S_spec_NamedGraph_j4 (F : Nat) (x1341 : Int) (x1830 : Int) (l1832 : List Int) : Option ((Int × (List Int) × Int) ⊕ ((Int × (List Int)) ⊕ (Int × (List (Int)) × Bool))) :=
  some (Sum.inl (x1830, l1832, (IntKind.i64.wrap (x1341 + 1))))

def S_spec_NamedGraph_j6 (F : Nat) (x1889 : Int) (x1967 : Int) (l1969 : List Int) : Option ((Int × (List Int) × Int) ⊕ ((Int × (List Int)) ⊕ (Int × (List (Int)) × Bool))) :=
  some (Sum.inl (x1967, l1969, (IntKind.i64.wrap (x1889 + 1))))

def S_spec_NamedGraph_j7 (F : Nat) (x1341 : Int) (x1886 : Int) (l1888 : List Int) (x1889 : Int) (p1980 : Bool) : Option ((Int × (List Int) × Int) ⊕ ((Int × (List Int)) ⊕ (Int × (List (Int)) × Bool))) :=
  (if p1980 = true then ((S_spec_AddEdge F x1886 l1888 x1341 x1889).bind fun r1982 => S_spec_NamedGraph_j6 F x1889 r1982.1 r1982.2.1) else S_spec_NamedGraph_j6 F x1889 x1886 l1888)

def S_spec_NamedGraph_l5 (F : Nat) (p0_name : List UInt8) (p1_n : Int) (x1341 : Int) (x1886 : Int) (l1888 : List Int) (x1889 : Int) : Option ((Int × (List Int) × Int) ⊕ ((Int × (List Int)) ⊕ (Int × (List (Int)) × Bool))) :=
  (if (decide (x1889 < p1_n)) = true then (if (p0_name == ([112, 97, 116, 104] : List UInt8)) = true then S_spec_NamedGraph_j7 F x1341 x1886 l1888 x1889 (x1889 == (IntKind.i64.wrap (x1341 + 1))) else (if (p0_name == ([99, 121, 99, 108, 101] : List UInt8)) = true then (if (x1889 == (IntKind.i64.wrap (x1341 + 1))) = true then S_spec_NamedGraph_j7 F x1341 x1886 l1888 x1889 true else (if (x1341 == 0) = true then S_spec_NamedGraph_j7 F x1341 x1886 l1888 x1889 (x1889 == (IntKind.i64.wrap (p1_n - 1))) else S_spec_NamedGraph_j7 F x1341 x1886 l1888 x1889 false)) else (if (p0_name == ([99, 111, 109, 112, 108, 101, 116, 101] : List UInt8)) = true then S_spec_NamedGraph_j7 F x1341 x1886 l1888 x1889 true else (if (p0_name == ([115, 116, 97, 114] : List UInt8)) = true then S_spec_NamedGraph_j7 F x1341 x1886 l1888 x1889 (x1341 == 0) else (if (p0_name == ([119, 104, 101, 101, 108] : List UInt8)) = true then (if (x1341 == 0) = true then S_spec_NamedGraph_j7 F x1341 x1886 l1888 x1889 true else (if (x1889 == (IntKind.i64.wrap (x1341 + 1))) = true then S_spec_NamedGraph_j7 F x1341 x1886 l1888 x1889 true else (if (x1341 == 1) = true then S_spec_NamedGraph_j7 F x1341 x1886 l1888 x1889 (x1889 == (IntKind.i64.wrap (p1_n - 1))) else S_spec_NamedGraph_j7 F x1341 x1886 l1888 x1889 false))) else (if (p0_name == ([101, 109, 112, 116, 121] : List UInt8)) = true then S_spec_NamedGraph_j7 F x1341 x1886 l1888 x1889 false else some (Sum.inr (Sum.inr (0, ([] : List (Int)), false))))))))) else some (Sum.inr (Sum.inl (x1886, l1888))))

def S_spec_NamedGraph_l3 (F : Nat) (p0_name : List UInt8) (p1_n : Int) (x1338 : Int) (l1340 : List Int) (x1341 : Int) : Option ((Int × (List Int) × Int) ⊕ ((Int × (List Int)) ⊕ (Int × (List (Int)) × Bool))) :=
  (if (decide (x1341 < p1_n)) = true then (loopN (σ := (Int × (List Int) × Int)) (β := ((Int × (List Int)) ⊕ (Int × (List (Int)) × Bool))) (fun s => S_spec_NamedGraph_l5 F p0_name p1_n x1341 s.1 s.2.1 s.2.2) F (x1338, l1340, (IntKind.i64.wrap (x1341 + 1)))).bind (fun b => (match b with | .inl o => S_spec_NamedGraph_j4 F x1341 o.1 o.2 | .inr o => some (Sum.inr (Sum.inr o)))) else some (Sum.inr (Sum.inl (x1338, l1340))))

def S_spec_NamedGraph (F : Nat) (p0_name : List UInt8) (p1_n : Int) : Option (Int × (List (Int)) × Bool) :=
  ((S_spec_l1In F p1_n 1 7).bind fun r11 => (if (!r11) = true then some (0, ([] : List (Int)), false) else ((mkO p1_n).bind fun _ => (loopN (σ := (Int × (List Int) × Int)) (β := ((Int × (List Int)) ⊕ (Int × (List (Int)) × Bool))) (fun s => S_spec_NamedGraph_l3 F p0_name p1_n s.1 s.2.1 s.2.2) F (p1_n, (List.replicate p1_n.toNat (0 : Int)), 0)).bind (fun b => (match b with | .inl o => S_spec_NamedGraph_j1 F p0_name p1_n o.1 o.2 | .inr o => some o)))))

def S_spec_l1Once (F : Nat) (p0_c_b : List Int) (p0_c_i : Int) (p0_c_h : Int) (p1_n : Int) : Option (Bool × Int × Int) :=
  ((S_spec_l1Below F p0_c_b p0_c_i p0_c_h p1_n).bind fun r4 => some ((r4.1 == 0), r4.2.1, r4.2.2))

def S_spec_l1Pick (F : Nat) (p0_c_b : List Int) (p0_c_i : Int) (p0_c_h : Int) (p1_list : List (List UInt8)) : Option ((List UInt8) × Int × Int) :=
  ((S_spec_l1Below F p0_c_b p0_c_i p0_c_h (p1_list.length : Int)).bind fun r5 => ((idxL p1_list r5.1).bind fun x6 => some (x6, r5.2.1, r5.2.2)))

def S_spec_l2Random_j1 (F : Nat) (x435 : Int) (l437 : List Int) (x438 : Int) (x439 : Int) : Option (Int × (List (Int)) × Int × Int) :=
  some (x435, l437, x438, x439)

def S_spec_l2Random_j3 (F : Nat) (x587 : Int) (x796 : Int) (x797 : Int) (x798 : Int) (l800 : List Int) : Option ((Int × Int × Int × (List Int) × Int) ⊕ ((Int × (List Int) × Int × Int))) :=
  some (Sum.inl (x796, x797, x798, l800, (IntKind.i64.wrap (x587 + 1))))

def S_spec_l2Random_j5 (F : Nat) (x827 : Int) (x856 : Int) (x857 : Int) (x858 : Int) (l860 : List Int) : Option ((Int × Int × Int × (List Int) × Int) ⊕ ((Int × Int × Int × (List Int)))) :=
  some (Sum.inl (x856, x857, x858, l860, (IntKind.i64.wrap (x827 + 1))))

def S_spec_l2Random_l4 (F : Nat) (p0_c_b : List Int) (p1_n : Int) (p2_odd : Int) (x587 : Int) (x822 : Int) (x823 : Int) (x824 : Int) (l826 : List Int) (x827 : Int) : Option ((Int × Int × Int × (List Int) × Int) ⊕ ((Int × Int × Int × (List Int)))) :=
  (if (decide (x827 < p1_n)) = true then ((S_spec_l1Below F p0_c_b x822 x823 10).bind fun r863 => (if (decide (r863.1 < p2_odd)) = true then ((S_spec_AddEdge F x824 l826 x587 x827).bind fun r864 => S_spec_l2Random_j5 F x827 r863.2.1 r863.2.2 r864.1 r864.2.1) else S_spec_l2Random_j5 F x827 r863.2.1 r863.2.2 x824 l826)) else some (Sum.inr (x822, x823, x824, l826)))

def S_spec_l2Random_l2 (F : Nat) (p0_c_b : List Int) (p1_n : Int) (p2_odd : Int) (x582 : Int) (x583 : Int) (x584 : Int) (l586 : List Int) (x587 : Int) : Option ((Int × Int × Int × (List Int) × Int) ⊕ ((Int × (List Int) × Int × Int))) :=
  (if (decide (x587 < p1_n)) = true then (loopN (σ := (Int × Int × Int × (List Int) × Int)) (β := ((Int × Int × Int × (List Int)))) (fun s => S_spec_l2Random_l4 F p0_c_b p1_n p2_odd x587 s.1 s.2.1 s.2.2.1 s.2.2.2.1 s.2.2.2.2) F (x582, x583, x584, l586, (IntKind.i64.wrap (x587 + 1)))).bind (fun b => S_spec_l2Random_j3 F x587 b.1 b.2.1 b.2.2.1 b.2.2.2) else some (Sum.inr (x584, l586, x582, x583)))

def S_spec_l2Random (F : Nat) (p0_c_b : List Int) (p0_c_i : Int) (p0_c_h : Int) (p1_n : Int) (p2_odd : Int) : Option (Int × (List (Int)) × Int × Int) :=
  ((mkO p1_n).bind fun _ => (loopN (σ := (Int × Int × Int × (List Int) × Int)) (β := ((Int × (List Int) × Int × Int))) (fun s => S_spec_l2Random_l2 F p0_c_b p1_n p2_odd s.1 s.2.1 s.2.2.1 s.2.2.2.1 s.2.2.2.2) F (p0_c_i, p0_c_h, p1_n, (List.replicate p1_n.toNat (0 : Int)), 0)).bind (fun b => S_spec_l2Random_j1 F b.1 b.2.1 b.2.2.1 b.2.2.2))

def S_spec_l2Draw_j1 (F : Nat) (x79 : Int) (l81 : List Int) (x82 : Int) (x83 : Int) : Option (Int × (List (Int)) × Int × Int) :=
  some (x79, l81, x82, x83)

def S_spec_l2Draw (F : Nat) (p0_c_b : List Int) (p0_c_i : Int) (p0_c_h : Int) : Option (Int × (List (Int)) × Int × Int) :=
  ((S_spec_l1Below F p0_c_b p0_c_i p0_c_h 6).bind fun r6 => ((S_spec_l1Below F p0_c_b r6.2.1 r6.2.2 4).bind fun r54 => (if (r54.1 == 0) = true then ((S_spec_l1Pick F p0_c_b r54.2.1 r54.2.2 ([([112, 97, 116, 104] : List UInt8), ([99, 121, 99, 108, 101] : List UInt8), ([99, 111, 109, 112, 108, 101, 116, 101] : List UInt8), ([115, 116, 97, 114] : List UInt8), ([119, 104, 101, 101, 108] : List UInt8)] : List (List UInt8))).bind fun r63 => ((S_spec_NamedGraph F r63.1 (IntKind.i64.wrap (1 + r6.1))).bind fun r64 => ((S_spec_l1Below F p0_c_b r63.2.1 r63.2.2 (IntKind.i64.wrap (1 + r6.1))).bind fun r69 => ((S_spec_l1Below F p0_c_b r69.2.1 r69.2.2 (IntKind.i64.wrap (1 + r6.1))).bind fun r72 => ((S_spec_l1Once F p0_c_b r72.2.1 r72.2.2 2).bind fun r87 => (if r87.1 = true then ((S_spec_AddEdge F r64.1 r64.2.1 r69.1 r72.1).bind fun r88 => S_spec_l2Draw_j1 F r88.1 r88.2.1 r87.2.1 r87.2.2) else S_spec_l2Draw_j1 F r64.1 r64.2.1 r87.2.1 r87.2.2)))))) else (if (r54.1 == 1) = true then ((S_spec_l2Random F p0_c_b r54.2.1 r54.2.2 (IntKind.i64.wrap (1 + r6.1)) 7).bind fun r94 => some (r94.1, r94.2.1, r94.2.2.1, r94.2.2.2)) else ((S_spec_l2Random F p0_c_b r54.2.1 r54.2.2 (IntKind.i64.wrap (1 + r6.1)) 4).bind fun r99 => some (r99.1, r99.2.1, r99.2.2.1, r99.2.2.2))))))

def S_spec_l2Any_j1 (F : Nat) (x22 : Int) (l23 : List Int) (x24 : Int) (x25 : Int) : Option (Int × (List (Int)) × Int × Int) :=
  some (x22, l23, x24, x25)

def S_spec_l2Any (F : Nat) (p0_c_b : List Int) (p0_c_i : Int) (p0_c_h : Int) : Option (Int × (List (Int)) × Int × Int) :=
  ((S_spec_l2Draw F p0_c_b p0_c_i p0_c_h).bind fun r8 => ((S_spec_l1Below F p0_c_b r8.2.2.1 r8.2.2.2 18).bind fun r29 => (if (r29.1 == 0) = true then ((S_spec_l1PickInt F p0_c_b r29.2.1 r29.2.2 ([0, (-1), 8, 3] : List (Int))).bind fun r32 => S_spec_l2Any_j1 F r32.1 r8.2.1 r32.2.1 r32.2.2) else (if (r29.1 == 1) = true then ((S_spec_l1PickInt F p0_c_b r29.2.1 r29.2.2 ([(-1), 1, 2, 128, 9223372036854775807] : List (Int))).bind fun r35 => ((idxL r8.2.1 0).bind fun x36 => S_spec_l2Any_j1 F r8.1 (r8.2.1.set ((0 : Int).toNat) r35.1) r35.2.1 r35.2.2)) else S_spec_l2Any_j1 F r8.1 r8.2.1 r29.2.1 r29.2.2))))

def S_spec_DrawFormatGraph (F : Nat) (p0_code : List Int) : Option (Int × (List (Int))) :=
  ((S_spec_l1New F p0_code).bind fun r9 => ((S_spec_l2Any F p0_code r9.1 r9.2).bind fun r11 => some (r11.1, r11.2.1)))

def S_impl_FormatInt (F : Nat) (p0_n : Int) : Option ((List UInt8)) :=
  ((S_strconv_Itoa F p0_n).bind fun r4 => some r4)

def S_impl_FormatGraph_j1 (F : Nat) (s68 : List UInt8) : Option ((List UInt8)) :=
  some s68

def S_impl_FormatGraph_l2 (F : Nat) (r74 : (List (List Int))) (s77 : List UInt8) (x78 : Int) : Option (((List UInt8) × Int) ⊕ (((List UInt8)))) :=
  (if (decide (x78 < (r74.length : Int))) = true then ((idxL r74 x78).bind fun x115 => ((idxL x115 0).bind fun x117 => ((idxL x115 1).bind fun x118 => ((S_impl_FormatInt F x117).bind fun r119 => ((catO ([32] : List UInt8).length r119.length).bind fun _ => ((S_impl_FormatInt F x118).bind fun r120 => ((catO (([32] : List UInt8) ++ r119).length r120.length).bind fun _ => ((catO s77.length ((([32] : List UInt8) ++ r119) ++ r120).length).bind fun _ => some (Sum.inl ((s77 ++ ((([32] : List UInt8) ++ r119) ++ r120)), (IntKind.i64.wrap (x78 + 1)))))))))))) else some (Sum.inr s77))

def S_impl_FormatGraph (F : Nat) (p0_g_Size : Int) (p0_g_Rows : List Int) : Option ((List UInt8)) :=
  ((S_impl_IsGraph F p0_g_Size p0_g_Rows).bind fun r11 => (if (!r11) = true then some ([] : List UInt8) else ((S_impl_FormatInt F p0_g_Size).bind fun r15 => ((catO r15.length ([58] : List UInt8).length).bind fun _ => ((S_impl_EdgesOf F p0_g_Size p0_g_Rows).bind fun r74 => (loopN (σ := ((List UInt8) × Int)) (β := (((List UInt8)))) (fun s => S_impl_FormatGraph_l2 F r74 s.1 s.2) F ((r15 ++ ([58] : List UInt8)), 0)).bind (fun b => S_impl_FormatGraph_j1 F b))))))

def S_impl_ParseGraph_j2 (F : Nat) (p0_s : List UInt8) (x19 : UInt8) (l204 : List Int) : Option (Int × (List (Int)) × Bool) :=
  ((S_impl_FormatGraph F (IntKind.i64.wrap ((IntKind.i64.wrap (x19.toNat : Int)) - 48)) l204).bind fun r212 => (if (r212 != p0_s) = true then some (0, ([] : List (Int)), false) else some ((IntKind.i64.wrap ((IntKind.i64.wrap (x19.toNat : Int)) - 48)), l204, true)))

def S_impl_ParseGraph_j4 (F : Nat) (l275 : List Int) (x276 : Int) (x369 : UInt8) (x370 : UInt8) (p382 : Bool) : Option (((List Int) × Int) ⊕ (((List Int)) ⊕ (Int × (List (Int)) × Bool))) :=
  (if p382 = true then some (Sum.inr (Sum.inr (0, ([] : List (Int)), false))) else ((idxL l275 (IntKind.i64.wrap ((IntKind.i64.wrap (x369.toNat : Int)) - 48))).bind fun x387 => ((nnO (IntKind.i64.wrap ((IntKind.i64.wrap (x370.toNat : Int)) - 48))).bind fun _ => ((idxL l275 (IntKind.i64.wrap ((IntKind.i64.wrap (x369.toNat : Int)) - 48))).bind fun x388 => ((idxL (l275.set ((IntKind.i64.wrap ((IntKind.i64.wrap (x369.toNat : Int)) - 48)).toNat) (bOr x387 (shL 1 (IntKind.i64.wrap ((IntKind.i64.wrap (x370.toNat : Int)) - 48))))) (IntKind.i64.wrap ((IntKind.i64.wrap (x370.toNat : Int)) - 48))).bind fun x389 => ((nnO (IntKind.i64.wrap ((IntKind.i64.wrap (x369.toNat : Int)) - 48))).bind fun _ => ((idxL (l275.set ((IntKind.i64.wrap ((IntKind.i64.wrap (x369.toNat : Int)) - 48)).toNat) (bOr x387 (shL 1 (IntKind.i64.wrap ((IntKind.i64.wrap (x370.toNat : Int)) - 48))))) (IntKind.i64.wrap ((IntKind.i64.wrap (x370.toNat : Int)) - 48))).bind fun x390 => some (Sum.inl (((l275.set ((IntKind.i64.wrap ((IntKind.i64.wrap (x369.toNat : Int)) - 48)).toNat) (bOr x387 (shL 1 (IntKind.i64.wrap ((IntKind.i64.wrap (x370.toNat : Int)) - 48))))).set ((IntKind.i64.wrap ((IntKind.i64.wrap (x370.toNat : Int)) - 48)).toNat) (bOr x389 (shL 1 (IntKind.i64.wrap ((IntKind.i64.wrap (x369.toNat : Int)) - 48))))), (IntKind.i64.wrap (x276 + 3)))))))))))

def S_impl_ParseGraph_l3 (F : Nat) (p0_s : List UInt8) (x19 : UInt8) (l275 : List Int) (x276 : Int) : Option (((List Int) × Int) ⊕ (((List Int)) ⊕ (Int × (List (Int)) × Bool))) :=
  (if (decide ((IntKind.i64.wrap (x276 + 2)) < (p0_s.length : Int))) = true then ((idxL p0_s (IntKind.i64.wrap (x276 + 1))).bind fun x369 => ((idxL p0_s (IntKind.i64.wrap (x276 + 2))).bind fun x370 => ((S_impl_within F (IntKind.i64.wrap ((IntKind.i64.wrap (x369.toNat : Int)) - 48)) 0 (IntKind.i64.wrap ((IntKind.i64.wrap ((IntKind.i64.wrap (x19.toNat : Int)) - 48)) - 1))).bind fun r391 => (if (!r391) = true then S_impl_ParseGraph_j4 F l275 x276 x369 x370 true else ((S_impl_within F (IntKind.i64.wrap ((IntKind.i64.wrap (x370.toNat : Int)) - 48)) 0 (IntKind.i64.wrap ((IntKind.i64.wrap ((IntKind.i64.wrap (x19.toNat : Int)) - 48)) - 1))).bind fun r392 => (if (!r392) = true then S_impl_ParseGraph_j4 F l275 x276 x369 x370 true else S_impl_ParseGraph_j4 F l275 x276 x369 x370 ((IntKind.i64.wrap ((IntKind.i64.wrap (x369.toNat : Int)) - 48)) == (IntKind.i64.wrap ((IntKind.i64.wrap (x370.toNat : Int)) - 48))))))))) else some (Sum.inr (Sum.inl l275)))

def S_impl_ParseGraph_j1 (F : Nat) (p0_s : List UInt8) (p15 : Bool) : Option (Int × (List (Int)) × Bool) :=
  (if p15 = true then some (0, ([] : List (Int)), false) else ((idxL p0_s 0).bind fun x19 => ((mkO (IntKind.i64.wrap ((IntKind.i64.wrap (x19.toNat : Int)) - 48))).bind fun _ => (loopN (σ := ((List Int) × Int)) (β := (((List Int)) ⊕ (Int × (List (Int)) × Bool))) (fun s => S_impl_ParseGraph_l3 F p0_s x19 s.1 s.2) F ((List.replicate (IntKind.i64.wrap ((IntKind.i64.wrap (x19.toNat : Int)) - 48)).toNat (0 : Int)), 2)).bind (fun b => (match b with | .inl o => S_impl_ParseGraph_j2 F p0_s x19 o | .inr o => some o)))))

def S_impl_ParseGraph (F : Nat) (p0_s : List UInt8) : Option (Int × (List (Int)) × Bool) :=
  (if (p0_s == ([] : List UInt8)) = true then S_impl_ParseGraph_j1 F p0_s true else ((idxL p0_s 0).bind fun x393 => ((S_impl_within F (IntKind.i64.wrap ((IntKind.i64.wrap (x393.toNat : Int)) - 48)) 1 7).bind fun r394 => S_impl_ParseGraph_j1 F p0_s (!r394))))

def S_spec_EdgesOf_j1 (F : Nat) (l213 : List (List Int)) : Option ((List (List Int))) :=
  some l213

def S_spec_EdgesOf_j4 (F : Nat) (x219 : Int) (l373 : List (List Int)) : Option (((List (List Int)) × Int) ⊕ (((List (List Int))))) :=
  some (Sum.inl (l373, (IntKind.i64.wrap (x219 + 1))))

def S_spec_EdgesOf_j6 (F : Nat) (x378 : Int) (l410 : List (List Int)) : Option (((List (List Int)) × Int) ⊕ (((List (List Int))))) :=
  some (Sum.inl (l410, (IntKind.i64.wrap (x378 + 1))))

def S_spec_EdgesOf_l5 (F : Nat) (p0_g_Size : Int) (p0_g_Rows : List Int) (x219 : Int) (l377 : List (List Int)) (x378 : Int) : Option (((List (List Int)) × Int) ⊕ (((List (List Int))))) :=
  (if (decide (x378 < p0_g_Size)) = true then ((S_spec_l2Edge F p0_g_Size p0_g_Rows x219 x378).bind fun r413 => (if r413 = true then ((catO l377.length ([([x219, x378] : List (Int))] : List (List Int)).length).bind fun _ => S_spec_EdgesOf_j6 F x378 (l377 ++ ([([x219, x378] : List (Int))] : List (List Int)))) else S_spec_EdgesOf_j6 F x378 l377)) else some (Sum.inr l377))

def S_spec_EdgesOf_j3 (F : Nat) (p0_g_Size : Int) (p0_g_Rows : List Int) (l218 : List (List Int)) (x219 : Int) (p326 : Bool) : Option (((List (List Int)) × Int) ⊕ (((List (List Int))))) :=
  (if p326 = true then (loopN (σ := ((List (List Int)) × Int)) (β := (((List (List Int))))) (fun s => S_spec_EdgesOf_l5 F p0_g_Size p0_g_Rows x219 s.1 s.2) F (l218, (IntKind.i64.wrap (x219 + 1)))).bind (fun b => S_spec_EdgesOf_j4 F x219 b) else some (Sum.inr l218))

def S_spec_EdgesOf_l2 (F : Nat) (p0_g_Size : Int) (p0_g_Rows : List Int) (l218 : List (List Int)) (x219 : Int) : Option (((List (List Int)) × Int) ⊕ (((List (List Int))))) :=
  (if (decide (x219 < p0_g_Size)) = true then ((S_spec_IsGraph F p0_g_Size p0_g_Rows).bind fun r417 => S_spec_EdgesOf_j3 F p0_g_Size p0_g_Rows l218 x219 r417) else S_spec_EdgesOf_j3 F p0_g_Size p0_g_Rows l218 x219 false)

def S_spec_EdgesOf (F : Nat) (p0_g_Size : Int) (p0_g_Rows : List Int) : Option ((List (List Int))) :=
  (loopN (σ := ((List (List Int)) × Int)) (β := (((List (List Int))))) (fun s => S_spec_EdgesOf_l2 F p0_g_Size p0_g_Rows s.1 s.2) F (([] : List (List Int)), 0)).bind (fun b => S_spec_EdgesOf_j1 F b)

def S_spec_FormatInt_j1 (F : Nat) (p0_n : Int) (s34 : List UInt8) : Option ((List UInt8)) :=
  (if (decide (p0_n < 0)) = true then ((catO ([45] : List UInt8).length s34.length).bind fun _ => some (([45] : List UInt8) ++ s34)) else some s34)

def S_spec_FormatInt_j3 (F : Nat) (x41 : Int) (s42 : List UInt8) (x60 : Int) : Option ((Int × (List UInt8)) ⊕ (((List UInt8)))) :=
  ((catO (u8s ([(IntKind.u8.wrap (IntKind.i64.wrap (48 + x60)))] : List (Int))).length s42.length).bind fun _ => some (Sum.inl ((IntKind.i64.wrap (x41.tdiv 10)), ((u8s ([(IntKind.u8.wrap (IntKind.i64.wrap (48 + x60)))] : List (Int))) ++ s42))))

def S_spec_FormatInt_l2 (F : Nat) (x41 : Int) (s42 : List UInt8) : Option ((Int × (List UInt8)) ⊕ (((List UInt8)))) :=
  (if (x41 != 0) = true then (if (decide ((x41.tmod 10) < 0)) = true then S_spec_FormatInt_j3 F x41 s42 (IntKind.i64.wrap (0 - (x41.tmod 10))) else S_spec_FormatInt_j3 F x41 s42 (x41.tmod 10)) else some (Sum.inr s42))

def S_spec_FormatInt (F : Nat) (p0_n : Int) : Option ((List UInt8)) :=
  (if (p0_n == 0) = true then some ([48] : List UInt8) else (loopN (σ := (Int × (List UInt8))) (β := (((List UInt8)))) (fun s => S_spec_FormatInt_l2 F s.1 s.2) F (p0_n, ([] : List UInt8))).bind (fun b => S_spec_FormatInt_j1 F p0_n b))

def S_spec_FormatGraph_j1 (F : Nat) (s67 : List UInt8) : Option ((List UInt8)) :=
  some s67

def S_spec_FormatGraph_l2 (F : Nat) (r20 : (List (List Int))) (s70 : List UInt8) (x71 : Int) : Option (((List UInt8) × Int) ⊕ (((List UInt8)))) :=
  (if (decide (x71 < (r20.length : Int))) = true then ((catO s70.length ([32] : List UInt8).length).bind fun _ => ((idxL r20 x71).bind fun x104 => ((idxL x104 0).bind fun x106 => ((idxL r20 x71).bind fun x107 => ((idxL x107 1).bind fun x109 => ((S_spec_FormatInt F x106).bind fun r110 => ((catO (s70 ++ ([32] : List UInt8)).length r110.length).bind fun _ => ((S_spec_FormatInt F x109).bind fun r111 => ((catO ((s70 ++ ([32] : List UInt8)) ++ r110).length r111.length).bind fun _ => some (Sum.inl ((((s70 ++ ([32] : List UInt8)) ++ r110) ++ r111), (IntKind.i64.wrap (x71 + 1))))))))))))) else some (Sum.inr s70))

def S_spec_FormatGraph (F : Nat) (p0_g_Size : Int) (p0_g_Rows : List Int) : Option ((List UInt8)) :=
  ((S_spec_IsGraph F p0_g_Size p0_g_Rows).bind fun r11 => (if (!r11) = true then some ([] : List UInt8) else ((S_spec_FormatInt F p0_g_Size).bind fun r15 => ((catO r15.length ([58] : List UInt8).length).bind fun _ => ((S_spec_EdgesOf F p0_g_Size p0_g_Rows).bind fun r20 => (loopN (σ := ((List UInt8) × Int)) (β := (((List UInt8)))) (fun s => S_spec_FormatGraph_l2 F r20 s.1 s.2) F ((r15 ++ ([58] : List UInt8)), 0)).bind (fun b => S_spec_FormatGraph_j1 F b))))))

def S_spec_l1Text_j1 (F : Nat) (l111 : List Int) (x112 : Int) (x113 : Int) : Option ((List UInt8) × Int × Int) :=
  some ((u8s l111), x112, x113)

def S_spec_l1Text_j4 (F : Nat) (l154 : List Int) (x155 : Int) (r205 : Int × Int × Int) (x211 : Int) : Option ((Int × Int × (List Int) × Int) ⊕ (((List Int) × Int × Int))) :=
  ((catO l154.length ([(IntKind.u8.wrap x211)] : List (Int)).length).bind fun _ => some (Sum.inl (r205.2.1, r205.2.2, (l154 ++ ([(IntKind.u8.wrap x211)] : List (Int))), (IntKind.i64.wrap (x155 - 1)))))

def S_spec_l1Text_j3 (F : Nat) (r7 : Int × Int × Int) (l154 : List Int) (x155 : Int) (r205 : Int × Int × Int) (x208 : Int) : Option ((Int × Int × (List Int) × Int) ⊕ (((List Int) × Int × Int))) :=
  (if (r7.1 == 2) = true then S_spec_l1Text_j4 F l154 x155 r205 (IntKind.i64.wrap (97 + (x208.tmod 4))) else S_spec_l1Text_j4 F l154 x155 r205 x208)

def S_spec_l1Text_l2 (F : Nat) (p0_c_b : List Int) (r7 : Int × Int × Int) (x151 : Int) (x152 : Int) (l154 : List Int) (x155 : Int) : Option ((Int × Int × (List Int) × Int) ⊕ (((List Int) × Int × Int))) :=
  (if (decide ((0 : Int) < x155)) = true then ((S_spec_l1Byte F p0_c_b x151 x152).bind fun r205 => (if (r7.1 == 1) = true then S_spec_l1Text_j3 F r7 l154 x155 r205 (r205.1.tmod 2) else S_spec_l1Text_j3 F r7 l154 x155 r205 r205.1)) else some (Sum.inr (l154, x151, x152)))

def S_spec_l1Text (F : Nat) (p0_c_b : List Int) (p0_c_i : Int) (p0_c_h : Int) (p1_most : Int) : Option ((List UInt8) × Int × Int) :=
  ((S_spec_l1Below F p0_c_b p0_c_i p0_c_h 4).bind fun r7 => ((S_spec_l1Below F p0_c_b r7.2.1 r7.2.2 (IntKind.i64.wrap (p1_most + 1))).bind fun r117 => (loopN (σ := (Int × Int × (List Int) × Int)) (β := (((List Int) × Int × Int))) (fun s => S_spec_l1Text_l2 F p0_c_b r7 s.1 s.2.1 s.2.2.1 s.2.2.2) F (r117.2.1, r117.2.2, ([] : List (Int)), r117.1)).bind (fun b => S_spec_l1Text_j1 F b.1 b.2.1 b.2.2)))

def S_spec_l1Spoil (F : Nat) (p0_c_b : List Int) (p0_c_i : Int) (p0_c_h : Int) (p1_s : List UInt8) : Option ((List UInt8) × Int × Int) :=
  (if ((p1_s.length : Int) == 0) = true then ((S_spec_l1Text F p0_c_b p0_c_i p0_c_h 3).bind fun r10 => some (r10.1, r10.2.1, r10.2.2)) else ((S_spec_l1Below F p0_c_b p0_c_i p0_c_h (p1_s.length : Int)).bind fun r13 => ((S_spec_l1Below F p0_c_b r13.2.1 r13.2.2 4).bind fun r30 => (if (r30.1 == 0) = true then ((sl2O p1_s.length 0 r13.1).bind fun _ => ((sl2O p1_s.length (IntKind.i64.wrap (r13.1 + 1)) (p1_s.length : Int)).bind fun _ => ((catO ((p1_s.drop (0 : Int).toNat).take (r13.1.toNat - (0 : Int).toNat)).length ((p1_s.drop (IntKind.i64.wrap (r13.1 + 1)).toNat).take ((p1_s.length : Int).toNat - (IntKind.i64.wrap (r13.1 + 1)).toNat)).length).bind fun _ => some ((((p1_s.drop (0 : Int).toNat).take (r13.1.toNat - (0 : Int).toNat)) ++ ((p1_s.drop (IntKind.i64.wrap (r13.1 + 1)).toNat).take ((p1_s.length : Int).toNat - (IntKind.i64.wrap (r13.1 + 1)).toNat))), r30.2.1, r30.2.2)))) else (if (r30.1 == 1) = true then ((sl2O p1_s.length 0 r13.1).bind fun _ => ((sl2O p1_s.length r13.1 (p1_s.length : Int)).bind fun _ => ((S_spec_l1Byte F p0_c_b r30.2.1 r30.2.2).bind fun r37 => ((catO ((p1_s.drop (0 : Int).toNat).take (r13.1.toNat - (0 : Int).toNat)).length (u8s ([(IntKind.u8.wrap r37.1)] : List (Int))).length).bind fun _ => ((catO (((p1_s.drop (0 : Int).toNat).take (r13.1.toNat - (0 : Int).toNat)) ++ (u8s ([(IntKind.u8.wrap r37.1)] : List (Int)))).length ((p1_s.drop r13.1.toNat).take ((p1_s.length : Int).toNat - r13.1.toNat)).length).bind fun _ => some (((((p1_s.drop (0 : Int).toNat).take (r13.1.toNat - (0 : Int).toNat)) ++ (u8s ([(IntKind.u8.wrap r37.1)] : List (Int)))) ++ ((p1_s.drop r13.1.toNat).take ((p1_s.length : Int).toNat - r13.1.toNat))), r37.2.1, r37.2.2)))))) else (if (r30.1 == 2) = true then ((sl2O p1_s.length 0 r13.1).bind fun _ => some (((p1_s.drop (0 : Int).toNat).take (r13.1.toNat - (0 : Int).toNat)), r30.2.1, r30.2.2)) else ((sl2O p1_s.length 0 r13.1).bind fun _ => ((idxL p1_s r13.1).bind fun x45 => ((sl2O p1_s.length (IntKind.i64.wrap (r13.1 + 1)) (p1_s.length : Int)).bind fun _ => ((S_spec_l1Below F p0_c_b r30.2.1 r30.2.2 255).bind fun r46 => ((catO ((p1_s.drop (0 : Int).toNat).take (r13.1.toNat - (0 : Int).toNat)).length (u8s ([(IntKind.u8.wrap (bXor (IntKind.i64.wrap (x45.toNat : Int)) (IntKind.i64.wrap (1 + r46.1))))] : List (Int))).length).bind fun _ => ((catO (((p1_s.drop (0 : Int).toNat).take (r13.1.toNat - (0 : Int).toNat)) ++ (u8s ([(IntKind.u8.wrap (bXor (IntKind.i64.wrap (x45.toNat : Int)) (IntKind.i64.wrap (1 + r46.1))))] : List (Int)))).length ((p1_s.drop (IntKind.i64.wrap (r13.1 + 1)).toNat).take ((p1_s.length : Int).toNat - (IntKind.i64.wrap (r13.1 + 1)).toNat)).length).bind fun _ => some (((((p1_s.drop (0 : Int).toNat).take (r13.1.toNat - (0 : Int).toNat)) ++ (u8s ([(IntKind.u8.wrap (bXor (IntKind.i64.wrap (x45.toNat : Int)) (IntKind.i64.wrap (1 + r46.1))))] : List (Int)))) ++ ((p1_s.drop (IntKind.i64.wrap (r13.1 + 1)).toNat).take ((p1_s.length : Int).toNat - (IntKind.i64.wrap (r13.1 + 1)).toNat))), r46.2.1, r46.2.2)))))))))))))

def S_spec_DrawParseGraph (F : Nat) (p0_code : List Int) : Option ((List UInt8)) :=
  ((S_spec_l1New F p0_code).bind fun r5 => ((S_spec_l2Any F p0_code r5.1 r5.2).bind fun r11 => ((S_spec_FormatGraph F r11.1 r11.2.1).bind fun r13 => ((S_spec_l1Below F p0_code r11.2.2.1 r11.2.2.2 4).bind fun r30 => (if (r30.1 == 0) = true then ((S_spec_l1Spoil F p0_code r30.2.1 r30.2.2 r13).bind fun r34 => some r34.1) else (if (r30.1 == 1) = true then ((S_spec_l1Pick F p0_code r30.2.1 r30.2.2 ([([] : List UInt8), ([51] : List UInt8), ([51, 58] : List UInt8), ([48, 58] : List UInt8), ([56, 58] : List UInt8), ([51, 58, 32, 48, 49, 32, 48, 50] : List UInt8), ([51, 58, 32, 48, 50, 32, 48, 49] : List UInt8), ([51, 58, 32, 49, 48] : List UInt8), ([51, 58, 32, 48, 49, 32, 48, 49] : List UInt8), ([51, 58, 32, 48, 51] : List UInt8), ([51, 58, 32, 32, 48, 49] : List UInt8), ([51, 59, 32, 48, 49] : List UInt8)] : List (List UInt8))).bind fun r40 => some r40.1) else some r13))))))

def S_spec_l2Cut_j1 (F : Nat) (l59 : List (List UInt8)) (s60 : List UInt8) : Option ((List (List UInt8))) :=
  ((catO l59.length ([s60] : List (List UInt8)).length).bind fun _ => some (l59 ++ ([s60] : List (List UInt8))))

def S_spec_l2Cut_j3 (F : Nat) (x70 : Int) (l107 : List (List UInt8)) (s108 : List UInt8) : Option (((List (List UInt8)) × (List UInt8) × Int) ⊕ (((List (List UInt8)) × (List UInt8)))) :=
  some (Sum.inl (l107, s108, (IntKind.i64.wrap (x70 + 1))))

def S_spec_l2Cut_l2 (F : Nat) (p0_s : List UInt8) (p1_by : Int) (l68 : List (List UInt8)) (s69 : List UInt8) (x70 : Int) : Option (((List (List UInt8)) × (List UInt8) × Int) ⊕ (((List (List UInt8)) × (List UInt8)))) :=
  (if (decide (x70 < (p0_s.length : Int))) = true then ((idxL p0_s x70).bind fun x111 => (if ((x111.toNat : Int) == p1_by) = true then ((catO l68.length ([s69] : List (List UInt8)).length).bind fun _ => S_spec_l2Cut_j3 F x70 (l68 ++ ([s69] : List (List UInt8))) ([] : List UInt8)) else ((sl2O p0_s.length x70 (IntKind.i64.wrap (x70 + 1))).bind fun _ => ((catO s69.length ((p0_s.drop x70.toNat).take ((IntKind.i64.wrap (x70 + 1)).toNat - x70.toNat)).length).bind fun _ => S_spec_l2Cut_j3 F x70 l68 (s69 ++ ((p0_s.drop x70.toNat).take ((IntKind.i64.wrap (x70 + 1)).toNat - x70.toNat))))))) else some (Sum.inr (l68, s69)))

def S_spec_l2Cut (F : Nat) (p0_s : List UInt8) (p1_by : Int) : Option ((List (List UInt8))) :=
  (loopN (σ := ((List (List UInt8)) × (List UInt8) × Int)) (β := (((List (List UInt8)) × (List UInt8)))) (fun s => S_spec_l2Cut_l2 F p0_s p1_by s.1 s.2.1 s.2.2) F (([] : List (List UInt8)), ([] : List UInt8), 0)).bind (fun b => S_spec_l2Cut_j1 F b.1 b.2)

def S_spec_ParseGraph_j2 (F : Nat) (p0_s : List UInt8) (x360 : Int) (l362 : List Int) : Option (Int × (List (Int)) × Bool) :=
  ((S_spec_FormatGraph F x360 l362).bind fun r370 => (if (r370 != p0_s) = true then some (0, ([] : List (Int)), false) else some (x360, l362, true)))

def S_spec_ParseGraph_j5 (F : Nat) (x482 : Int) (x671 : Int) (l673 : List Int) (p674 : Bool) : Option ((Int × (List Int) × Int) ⊕ ((Int × (List Int)) ⊕ (Int × (List (Int)) × Bool))) :=
  (if (!p674) = true then some (Sum.inr (Sum.inr (0, ([] : List (Int)), false))) else some (Sum.inl (x671, l673, (IntKind.i64.wrap (x482 + 1)))))

def S_spec_ParseGraph_j4 (F : Nat) (r7 : (List (List UInt8))) (x479 : Int) (l481 : List Int) (x482 : Int) (p661 : Bool) : Option ((Int × (List Int) × Int) ⊕ ((Int × (List Int)) ⊕ (Int × (List (Int)) × Bool))) :=
  (if p661 = true then some (Sum.inr (Sum.inr (0, ([] : List (Int)), false))) else ((idxL r7 x482).bind fun x680 => ((idxL x680 0).bind fun x681 => ((idxL r7 x482).bind fun x682 => ((idxL x682 1).bind fun x683 => ((S_spec_AddEdge F x479 l481 (IntKind.i64.wrap (IntKind.u8.wrap ((x681.toNat : Int) - 48))) (IntKind.i64.wrap (IntKind.u8.wrap ((x683.toNat : Int) - 48)))).bind fun r87s => S_spec_ParseGraph_j5 F x482 r87s.1 r87s.2.1 r87s.2.2))))))

def S_spec_ParseGraph_l3 (F : Nat) (r7 : (List (List UInt8))) (x479 : Int) (l481 : List Int) (x482 : Int) : Option ((Int × (List Int) × Int) ⊕ ((Int × (List Int)) ⊕ (Int × (List (Int)) × Bool))) :=
  (if (decide (x482 < (r7.length : Int))) = true then ((idxL r7 x482).bind fun x686 => (if ((x686.length : Int) != 2) = true then S_spec_ParseGraph_j4 F r7 x479 l481 x482 true else ((idxL r7 x482).bind fun x687 => ((idxL x687 0).bind fun x688 => (if (decide ((x688.toNat : Int) < 48)) = true then S_spec_ParseGraph_j4 F r7 x479 l481 x482 true else ((idxL r7 x482).bind fun x689 => ((idxL x689 1).bind fun x690 => S_spec_ParseGraph_j4 F r7 x479 l481 x482 (decide ((x690.toNat : Int) < 48))))))))) else some (Sum.inr (Sum.inl (x479, l481))))

def S_spec_ParseGraph_j1 (F : Nat) (p0_s : List UInt8) (r7 : (List (List UInt8))) (p29 : Bool) : Option (Int × (List (Int)) × Bool) :=
  (if p29 = true then some (0, ([] : List (Int)), false) else ((idxL r7 0).bind fun x35 => ((idxL x35 0).bind fun x36 => ((mkO (IntKind.i64.wrap (IntKind.u8.wrap ((x36.toNat : Int) - 48)))).bind fun _ => (loopN (σ := (Int × (List Int) × Int)) (β := ((Int × (List Int)) ⊕ (Int × (List (Int)) × Bool))) (fun s => S_spec_ParseGraph_l3 F r7 s.1 s.2.1 s.2.2) F ((IntKind.i64.wrap (IntKind.u8.wrap ((x36.toNat : Int) - 48))), (List.replicate (IntKind.i64.wrap (IntKind.u8.wrap ((x36.toNat : Int) - 48))).toNat (0 : Int)), 1)).bind (fun b => (match b with | .inl o => S_spec_ParseGraph_j2 F p0_s o.1 o.2 | .inr o => some o))))))

def S_spec_ParseGraph (F : Nat) (p0_s : List UInt8) : Option (Int × (List (Int)) × Bool) :=
  ((S_spec_l2Cut F p0_s 32).bind fun r7 => ((idxL r7 0).bind fun x691 => (if ((x691.length : Int) != 2) = true then S_spec_ParseGraph_j1 F p0_s r7 true else ((idxL r7 0).bind fun x692 => ((idxL x692 0).bind fun x693 => (if (decide ((x693.toNat : Int) < 49)) = true then S_spec_ParseGraph_j1 F p0_s r7 true else ((idxL r7 0).bind fun x694 => ((idxL x694 0).bind fun x695 => S_spec_ParseGraph_j1 F p0_s r7 (decide ((55 : Int) < (x695.toNat : Int)))))))))))

def S_impl_all (F : Nat) (p0_g_Size : Int) (p0_g_Rows : List Int) : Option (Int) :=
  ((nnO p0_g_Size).bind fun _ => some (IntKind.i64.wrap ((shL 1 p0_g_Size) - 1)))

def S_impl_copyGraph (F : Nat) (p0_g_Size : Int) (p0_g_Rows : List Int) : Option (Int × (List (Int))) :=
  ((catO ([] : List (Int)).length p0_g_Rows.length).bind fun _ => some (p0_g_Size, (([] : List (Int)) ++ p0_g_Rows)))

def S_impl_ComplementOf_j1 (F : Nat) (r19 : Int × (List (Int))) (l60 : List Int) : Option (Int × (List (Int)) × Bool) :=
  some (r19.1, l60, true)

def S_impl_ComplementOf_l2 (F : Nat) (p0_g_Size : Int) (p0_g_Rows : List Int) (r19 : Int × (List (Int))) (l75 : List Int) (x76 : Int) : Option (((List Int) × Int) ⊕ (((List Int)))) :=
  (if (decide (x76 < (r19.2.length : Int))) = true then ((idxL p0_g_Rows x76).bind fun x96 => ((nnO x76).bind fun _ => ((S_impl_all F p0_g_Size p0_g_Rows).bind fun r97 => ((idxL l75 x76).bind fun x98 => some (Sum.inl ((l75.set (x76.toNat) (bAndNot (bAndNot r97 x96) (shL 1 x76))), (IntKind.i64.wrap (x76 + 1)))))))) else some (Sum.inr l75))

def S_impl_ComplementOf (F : Nat) (p0_g_Size : Int) (p0_g_Rows : List Int) : Option (Int × (List (Int)) × Bool) :=
  ((S_impl_IsGraph F p0_g_Size p0_g_Rows).bind fun r13 => (if (!r13) = true then some (0, ([] : List (Int)), false) else ((S_impl_copyGraph F p0_g_Size p0_g_Rows).bind fun r19 => (loopN (σ := ((List Int) × Int)) (β := (((List Int)))) (fun s => S_impl_ComplementOf_l2 F p0_g_Size p0_g_Rows r19 s.1 s.2) F (r19.2, 0)).bind (fun b => S_impl_ComplementOf_j1 F r19 b))))

def S_spec_l2Two (F : Nat) (p0_code : List Int) : Option (Int × (List (Int)) × Int × Int) :=
  ((S_spec_l1New F p0_code).bind fun r7 => ((S_spec_l2Any F p0_code r7.1 r7.2).bind fun r13 => ((S_spec_l1Below F p0_code r13.2.2.1 r13.2.2.2 7).bind fun r20 => ((S_spec_l1Below F p0_code r20.2.1 r20.2.2 2).bind fun r21 => ((S_spec_l1Below F p0_code r21.2.1 r21.2.2 2).bind fun r22 => ((S_spec_l1Below F p0_code r22.2.1 r22.2.2 6).bind fun r25 => some (r13.1, r13.2.1, (IntKind.i64.wrap (r20.1 - (IntKind.i64.wrap (r21.1 * r22.1)))), r25.1)))))))

def S_spec_DrawAddEdge (F : Nat) (p0_code : List Int) : Option (Int × (List (Int)) × Int × Int) :=
  ((S_spec_l2Two F p0_code).bind fun r8 => some (r8.1, r8.2.1, r8.2.2.1, r8.2.2.2))

def S_impl_isVertex_j1 (F : Nat) (p0_g_Size : Int) (p0_g_Rows : List Int) : Option (Bool) :=
  ((S_impl_IsGraph F p0_g_Size p0_g_Rows).bind fun r43 => some r43)

def S_impl_isVertex_l2 (F : Nat) (p0_g_Size : Int) (p1_vertices : List Int) (x45 : Int) : Option ((Int) ⊕ (Unit ⊕ Bool)) :=
  (if (decide (x45 < (p1_vertices.length : Int))) = true then ((idxL p1_vertices x45).bind fun x75 => ((S_impl_within F x75 0 (IntKind.i64.wrap (p0_g_Size - 1))).bind fun r78 => (if (!r78) = true then some (Sum.inr (Sum.inr false)) else some (Sum.inl (IntKind.i64.wrap (x45 + 1)))))) else some (Sum.inr (Sum.inl ())))

def S_impl_isVertex (F : Nat) (p0_g_Size : Int) (p0_g_Rows : List Int) (p1_vertices : List Int) : Option (Bool) :=
  (loopN (σ := Int) (β := (Unit ⊕ Bool)) (fun s => S_impl_isVertex_l2 F p0_g_Size p1_vertices s) F 0).bind (fun b => (match b with | .inl o => S_impl_isVertex_j1 F p0_g_Size p0_g_Rows | .inr o => some o))

def S_impl_flip (F : Nat) (p0_g_Size : Int) (p0_g_Rows : List Int) (p1_v : Int) (p2_w : Int) : Option ((List (Int))) :=
  ((idxL p0_g_Rows p1_v).bind fun x7 => ((nnO p2_w).bind fun _ => ((idxL p0_g_Rows p1_v).bind fun x8 => ((idxL (p0_g_Rows.set (p1_v.toNat) (bXor x7 (shL 1 p2_w))) p2_w).bind fun x9 => ((nnO p1_v).bind fun _ => ((idxL (p0_g_Rows.set (p1_v.toNat) (bXor x7 (shL 1 p2_w))) p2_w).bind fun x10 => some ((p0_g_Rows.set (p1_v.toNat) (bXor x7 (shL 1 p2_w))).set (p2_w.toNat) (bXor x9 (shL 1 p1_v)))))))))

def S_impl_AddEdge_j1 (F : Nat) (p1_v : Int) (p2_w : Int) (r10 : Int × (List (Int))) (p30 : Bool) : Option (Int × (List (Int)) × Bool) :=
  (if p30 = true then some (r10.1, r10.2, false) else ((S_impl_flip F r10.1 r10.2 p1_v p2_w).bind fun r34 => some (r10.1, r34, true)))

def S_impl_AddEdge (F : Nat) (p0_g_Size : Int) (p0_g_Rows : List Int) (p1_v : Int) (p2_w : Int) : Option (Int × (List (Int)) × Bool) :=
  ((S_impl_copyGraph F p0_g_Size p0_g_Rows).bind fun r10 => ((S_impl_isVertex F p0_g_Size p0_g_Rows ([p1_v, p2_w] : List (Int))).bind fun r37 => (if (!r37) = true then S_impl_AddEdge_j1 F p1_v p2_w r10 true else (if (p1_v == p2_w) = true then S_impl_AddEdge_j1 F p1_v p2_w r10 true else ((idxL p0_g_Rows p1_v).bind fun x38 => ((S_impl_has F x38 p2_w).bind fun r39 => S_impl_AddEdge_j1 F p1_v p2_w r10 r39))))))

def S_impl_HasEdge_j1 (F : Nat) (p9 : Bool) : Option (Bool) :=
  some p9

def S_impl_HasEdge (F : Nat) (p0_g_Size : Int) (p0_g_Rows : List Int) (p1_v : Int) (p2_w : Int) : Option (Bool) :=
  ((S_impl_isVertex F p0_g_Size p0_g_Rows ([p1_v, p2_w] : List (Int))).bind fun r11 => (if r11 = true then ((idxL p0_g_Rows p1_v).bind fun x12 => ((S_impl_has F x12 p2_w).bind fun r13 => S_impl_HasEdge_j1 F r13)) else S_impl_HasEdge_j1 F false))

def S_impl_RemoveEdge (F : Nat) (p0_g_Size : Int) (p0_g_Rows : List Int) (p1_v : Int) (p2_w : Int) : Option (Int × (List (Int)) × Bool) :=
  ((S_impl_copyGraph F p0_g_Size p0_g_Rows).bind fun r10 => ((S_impl_HasEdge F p0_g_Size p0_g_Rows p1_v p2_w).bind fun r20 => (if (!r20) = true then some (r10.1, r10.2, false) else ((S_impl_flip F r10.1 r10.2 p1_v p2_w).bind fun r24 => some (r10.1, r24, true)))))

def S_spec_DrawRemoveEdge (F : Nat) (p0_code : List Int) : Option (Int × (List (Int)) × Int × Int) :=
  ((S_spec_l2Two F p0_code).bind fun r8 => some (r8.1, r8.2.1, r8.2.2.1, r8.2.2.2))

def S_spec_RemoveEdge_j1 (F : Nat) (p1_v : Int) (p2_w : Int) (r10 : Int × (List (Int))) (p24 : Bool) : Option (Int × (List (Int)) × Bool) :=
  (if p24 = true then some (r10.1, r10.2, false) else ((idxL r10.2 p1_v).bind fun x29 => ((nnO p2_w).bind fun _ => ((idxL r10.2 p1_v).bind fun x30 => ((idxL (r10.2.set (p1_v.toNat) (IntKind.i64.wrap (x29 - (shL 1 p2_w)))) p2_w).bind fun x34 => ((nnO p1_v).bind fun _ => ((idxL (r10.2.set (p1_v.toNat) (IntKind.i64.wrap (x29 - (shL 1 p2_w)))) p2_w).bind fun x35 => some (r10.1, ((r10.2.set (p1_v.toNat) (IntKind.i64.wrap (x29 - (shL 1 p2_w)))).set (p2_w.toNat) (IntKind.i64.wrap (x34 - (shL 1 p1_v)))), true))))))))

def S_spec_RemoveEdge (F : Nat) (p0_g_Size : Int) (p0_g_Rows : List Int) (p1_v : Int) (p2_w : Int) : Option (Int × (List (Int)) × Bool) :=
  ((S_spec_l2Copy F p0_g_Size p0_g_Rows).bind fun r10 => ((S_spec_l2Pair F p0_g_Size p0_g_Rows p1_v p2_w).bind fun r37 => (if (!r37) = true then S_spec_RemoveEdge_j1 F p1_v p2_w r10 true else ((S_spec_l2Edge F p0_g_Size p0_g_Rows p1_v p2_w).bind fun r38 => S_spec_RemoveEdge_j1 F p1_v p2_w r10 (!r38)))))

def S_spec_DrawHasEdge (F : Nat) (p0_code : List Int) : Option (Int × (List (Int)) × Int × Int) :=
  ((S_spec_l2Two F p0_code).bind fun r8 => some (r8.1, r8.2.1, r8.2.2.1, r8.2.2.2))

def S_laws_big (F : Nat) (p0_code : List Int) : Option (Bool) :=
  some (decide ((1048576 : Int) < (p0_code.length : Int)))

def S_spec_DrawNamedGraph (F : Nat) (p0_code : List Int) : Option ((List UInt8) × Int) :=
  ((S_spec_l1New F p0_code).bind fun r5 => ((S_spec_l1Pick F p0_code r5.1 r5.2 ([([112, 97, 116, 104] : List UInt8), ([99, 121, 99, 108, 101] : List UInt8), ([99, 111, 109, 112, 108, 101, 116, 101] : List UInt8), ([115, 116, 97, 114] : List UInt8), ([119, 104, 101, 101, 108] : List UInt8), ([101, 109, 112, 116, 121] : List UInt8), ([] : List UInt8), ([80, 97, 116, 104] : List UInt8)] : List (List UInt8))).bind fun r11 => ((S_spec_l1Below F p0_code r11.2.1 r11.2.2 10).bind fun r14 => some (r11.1, (IntKind.i64.wrap (r14.1 - 1))))))

def S_slices_Index_str_j1 (F : Nat) : Option (Int) :=
  some (-1)

def S_slices_Index_str_l2 (F : Nat) (p0_s : List (List UInt8)) (p1_v : List UInt8) (x33 : Int) : Option ((Int) ⊕ (Unit ⊕ Int)) :=
  (if (decide (x33 < (p0_s.length : Int))) = true then ((idxL p0_s x33).bind fun x58 => (if (p1_v == x58) = true then some (Sum.inr (Sum.inr x33)) else some (Sum.inl (IntKind.i64.wrap (x33 + 1))))) else some (Sum.inr (Sum.inl ())))

def S_slices_Index_str (F : Nat) (p0_s : List (List UInt8)) (p1_v : List UInt8) : Option (Int) :=
  (loopN (σ := Int) (β := (Unit ⊕ Int)) (fun s => S_slices_Index_str_l2 F p0_s p1_v s) F 0).bind (fun b => (match b with | .inl o => S_slices_Index_str_j1 F | .inr o => some o))

def S_slices_Contains_str (F : Nat) (p0_s : List (List UInt8)) (p1_v : List UInt8) : Option (Bool) :=
  ((S_slices_Index_str F p0_s p1_v).bind fun r4 => some (decide ((0 : Int) ≤ r4)))

def S_impl_isNamedEdge_j1 (F : Nat) (p21 : Bool) : Option (Bool) :=
  some p21

def S_impl_isNamedEdge_j2 (F : Nat) (p28 : Bool) : Option (Bool) :=
  some p28

def S_impl_isNamedEdge (F : Nat) (p0_name : List UInt8) (p1_n : Int) (p2_v : Int) (p3_w : Int) : Option (Bool) :=
  (if (p0_name == ([112, 97, 116, 104] : List UInt8)) = true then some (p3_w == (IntKind.i64.wrap (p2_v + 1))) else (if (p0_name == ([99, 121, 99, 108, 101] : List UInt8)) = true then (if (p3_w == (IntKind.i64.wrap (p2_v + 1))) = true then S_impl_isNamedEdge_j1 F true else (if (p2_v == 0) = true then S_impl_isNamedEdge_j1 F (p3_w == (IntKind.i64.wrap (p1_n - 1))) else S_impl_isNamedEdge_j1 F false)) else (if (p0_name == ([99, 111, 109, 112, 108, 101, 116, 101] : List UInt8)) = true then some true else (if (p0_name == ([115, 116, 97, 114] : List UInt8)) = true then some (p2_v == 0) else (if (p0_name == ([119, 104, 101, 101, 108] : List UInt8)) = true then (if (p2_v == 0) = true then S_impl_isNamedEdge_j2 F true else (if (p3_w == (IntKind.i64.wrap (p2_v + 1))) = true then S_impl_isNamedEdge_j2 F true else (if (p2_v == 1) = true then S_impl_isNamedEdge_j2 F (p3_w == (IntKind.i64.wrap (p1_n - 1))) else S_impl_isNamedEdge_j2 F false))) else some false)))))

def S_impl_NamedGraph_j2 (F : Nat) (p1_n : Int) (l306 : List Int) : Option (Int × (List (Int)) × Bool) :=
  some (p1_n, l306, true)

def S_impl_NamedGraph_j4 (F : Nat) (x403 : Int) (l543 : List Int) : Option (((List Int) × Int) ⊕ (((List Int)))) :=
  some (Sum.inl (l543, (IntKind.i64.wrap (x403 + 1))))

def S_impl_NamedGraph_j6 (F : Nat) (x561 : Int) (l583 : List Int) : Option (((List Int) × Int) ⊕ (((List Int)))) :=
  some (Sum.inl (l583, (IntKind.i64.wrap (x561 + 1))))

def S_impl_NamedGraph_l5 (F : Nat) (p0_name : List UInt8) (p1_n : Int) (x403 : Int) (l560 : List Int) (x561 : Int) : Option (((List Int) × Int) ⊕ (((List Int)))) :=
  (if (decide (x561 < p1_n)) = true then ((S_impl_isNamedEdge F p0_name p1_n x403 x561).bind fun r586 => (if r586 = true then ((S_impl_flip F p1_n l560 x403 x561).bind fun r587 => S_impl_NamedGraph_j6 F x561 r587) else S_impl_NamedGraph_j6 F x561 l560)) else some (Sum.inr l560))

def S_impl_NamedGraph_l3 (F : Nat) (p0_name : List UInt8) (p1_n : Int) (l402 : List Int) (x403 : Int) : Option (((List Int) × Int) ⊕ (((List Int)))) :=
  (if (decide (x403 < p1_n)) = true then (loopN (σ := ((List Int) × Int)) (β := (((List Int)))) (fun s => S_impl_NamedGraph_l5 F p0_name p1_n x403 s.1 s.2) F (l402, (IntKind.i64.wrap (x403 + 1)))).bind (fun b => S_impl_NamedGraph_j4 F x403 b) else some (Sum.inr l402))

def S_impl_NamedGraph_j1 (F : Nat) (p0_name : List UInt8) (p1_n : Int) (p18 : Bool) : Option (Int × (List (Int)) × Bool) :=
  (if p18 = true then some (0, ([] : List (Int)), false) else ((mkO p1_n).bind fun _ => (loopN (σ := ((List Int) × Int)) (β := (((List Int)))) (fun s => S_impl_NamedGraph_l3 F p0_name p1_n s.1 s.2) F ((List.replicate p1_n.toNat (0 : Int)), 0)).bind (fun b => S_impl_NamedGraph_j2 F p1_n b)))

def S_impl_NamedGraph (F : Nat) (p0_name : List UInt8) (p1_n : Int) : Option (Int × (List (Int)) × Bool) :=
  ((S_slices_Contains_str F ([([112, 97, 116, 104] : List UInt8), ([99, 121, 99, 108, 101] : List UInt8), ([99, 111, 109, 112, 108, 101, 116, 101] : List UInt8), ([115, 116, 97, 114] : List UInt8), ([119, 104, 101, 101, 108] : List UInt8), ([101, 109, 112, 116, 121] : List UInt8)] : List (List UInt8)) p0_name).bind fun r589 => (if (!r589) = true then S_impl_NamedGraph_j1 F p0_name p1_n true else ((S_impl_within F p1_n 1 7).bind fun r590 => S_impl_NamedGraph_j1 F p0_name p1_n (!r590))))

def S_spec_DrawEqualGraphs (F : Nat) (p0_code : List Int) : Option (Int × (List (Int)) × Int × (List (Int))) :=
  ((S_spec_l1New F p0_code).bind fun r9 => ((S_spec_l2Any F p0_code r9.1 r9.2).bind fun r15 => ((S_spec_l1Once F p0_code r15.2.2.1 r15.2.2.2 2).bind fun r29 => (if r29.1 = true then ((S_spec_l2Copy F r15.1 r15.2.1).bind fun r33 => some (r15.1, r15.2.1, r33.1, r33.2)) else ((S_spec_l2Any F p0_code r29.2.1 r29.2.2).bind fun r38 => some (r15.1, r15.2.1, r38.1, r38.2.1))))))

def S_spec_HasEdge_j1 (F : Nat) (p7 : Bool) : Option (Bool) :=
  some p7

def S_spec_HasEdge (F : Nat) (p0_g_Size : Int) (p0_g_Rows : List Int) (p1_v : Int) (p2_w : Int) : Option (Bool) :=
  ((S_spec_IsGraph F p0_g_Size p0_g_Rows).bind fun r8 => (if r8 = true then (if (decide ((0 : Int) ≤ p1_v)) = true then (if (decide ((0 : Int) ≤ p2_w)) = true then (if (decide (p1_v < p0_g_Size)) = true then (if (decide (p2_w < p0_g_Size)) = true then ((S_spec_l2Edge F p0_g_Size p0_g_Rows p1_v p2_w).bind fun r9 => S_spec_HasEdge_j1 F r9) else S_spec_HasEdge_j1 F false) else S_spec_HasEdge_j1 F false) else S_spec_HasEdge_j1 F false) else S_spec_HasEdge_j1 F false) else S_spec_HasEdge_j1 F false))

def S_slices_Equal_int_j1 (F : Nat) : Option (Bool) :=
  some true

def S_slices_Equal_int_l2 (F : Nat) (p0_s1 : List Int) (p1_s2 : List Int) (x46 : Int) : Option ((Int) ⊕ (Unit ⊕ Bool)) :=
  (if (decide (x46 < (p0_s1.length : Int))) = true then ((idxL p0_s1 x46).bind fun x78 => ((idxL p1_s2 x46).bind fun x79 => (if (x78 != x79) = true then some (Sum.inr (Sum.inr false)) else some (Sum.inl (IntKind.i64.wrap (x46 + 1)))))) else some (Sum.inr (Sum.inl ())))

def S_slices_Equal_int (F : Nat) (p0_s1 : List Int) (p1_s2 : List Int) : Option (Bool) :=
  (if ((p0_s1.length : Int) != (p1_s2.length : Int)) = true then some false else (loopN (σ := Int) (β := (Unit ⊕ Bool)) (fun s => S_slices_Equal_int_l2 F p0_s1 p1_s2 s) F 0).bind (fun b => (match b with | .inl o => S_slices_Equal_int_j1 F | .inr o => some o)))

def S_impl_EqualGraphs_j1 (F : Nat) (p8 : Bool) : Option (Bool) :=
  some p8

def S_impl_EqualGraphs (F : Nat) (p0_a_Size : Int) (p0_a_Rows : List Int) (p1_b_Size : Int) (p1_b_Rows : List Int) : Option (Bool) :=
  (if (p0_a_Size == p1_b_Size) = true then ((S_slices_Equal_int F p0_a_Rows p1_b_Rows).bind fun r9 => S_impl_EqualGraphs_j1 F r9) else S_impl_EqualGraphs_j1 F false)

def S_laws_sameInts_j1 (F : Nat) : Option (Bool) :=
  some true

def S_laws_sameInts_l2 (F : Nat) (p0_a : List Int) (p1_b : List Int) (x44 : Int) : Option ((Int) ⊕ (Unit ⊕ Bool)) :=
  (if (decide (x44 < (p0_a.length : Int))) = true then ((idxL p0_a x44).bind fun x74 => ((idxL p1_b x44).bind fun x75 => (if (x74 != x75) = true then some (Sum.inr (Sum.inr false)) else some (Sum.inl (IntKind.i64.wrap (x44 + 1)))))) else some (Sum.inr (Sum.inl ())))

def S_laws_sameInts (F : Nat) (p0_a : List Int) (p1_b : List Int) : Option (Bool) :=
  (if ((p0_a.length : Int) != (p1_b.length : Int)) = true then some false else (loopN (σ := Int) (β := (Unit ⊕ Bool)) (fun s => S_laws_sameInts_l2 F p0_a p1_b s) F 0).bind (fun b => (match b with | .inl o => S_laws_sameInts_j1 F | .inr o => some o)))

def S_laws_sameLists_j1 (F : Nat) : Option (Bool) :=
  some true

def S_laws_sameLists_l2 (F : Nat) (p0_a : List (List Int)) (p1_b : List (List Int)) (x68 : Int) : Option ((Int) ⊕ (Unit ⊕ Bool)) :=
  (if (decide (x68 < (p0_a.length : Int))) = true then ((idxL p0_a x68).bind fun x119 => ((idxL p1_b x68).bind fun x121 => ((S_laws_sameInts F x119 x121).bind fun r123 => (if (!r123) = true then some (Sum.inr (Sum.inr false)) else some (Sum.inl (IntKind.i64.wrap (x68 + 1))))))) else some (Sum.inr (Sum.inl ())))

def S_laws_sameLists (F : Nat) (p0_a : List (List Int)) (p1_b : List (List Int)) : Option (Bool) :=
  (if ((p0_a.length : Int) != (p1_b.length : Int)) = true then some false else (loopN (σ := Int) (β := (Unit ⊕ Bool)) (fun s => S_laws_sameLists_l2 F p0_a p1_b s) F 0).bind (fun b => (match b with | .inl o => S_laws_sameLists_j1 F | .inr o => some o)))

def S_laws_FnGraphs_j6 (F : Nat) (p241 : Bool) : Option (Bool) :=
  some p241

def S_laws_FnGraphs_j5 (F : Nat) (p0_code : List Int) (r15 : Int × (List (Int))) : Option (Bool) :=
  ((S_spec_DrawRemoveEdge F p0_code).bind fun r175 => ((S_impl_RemoveEdge F r175.1 r175.2.1 r175.2.2.1 r175.2.2.2).bind fun r182 => ((S_spec_RemoveEdge F r175.1 r175.2.1 r175.2.2.1 r175.2.2.2).bind fun r189 => ((S_spec_DrawHasEdge F p0_code).bind fun r196 => ((S_spec_DrawNamedGraph F p0_code).bind fun r201 => ((S_impl_NamedGraph F r201.1 r201.2).bind fun r206 => ((S_spec_NamedGraph F r201.1 r201.2).bind fun r213 => ((S_spec_DrawEqualGraphs F p0_code).bind fun r222 => (if (r182.2.2 == r189.2.2) = true then ((S_spec_EqualGraphs F r182.1 r182.2.1 r189.1 r189.2.1).bind fun r242 => (if r242 = true then ((S_impl_HasEdge F r196.1 r196.2.1 r196.2.2.1 r196.2.2.2).bind fun r243 => ((S_spec_HasEdge F r196.1 r196.2.1 r196.2.2.1 r196.2.2.2).bind fun r244 => (if (r243 == r244) = true then (if (r206.2.2 == r213.2.2) = true then ((S_spec_EqualGraphs F r206.1 r206.2.1 r213.1 r213.2.1).bind fun r245 => (if r245 = true then ((S_impl_EqualGraphs F r222.1 r222.2.1 r222.2.2.1 r222.2.2.2).bind fun r246 => ((S_spec_EqualGraphs F r222.1 r222.2.1 r222.2.2.1 r222.2.2.2).bind fun r247 => (if (r246 == r247) = true then ((S_impl_EdgesOf F r15.1 r15.2).bind fun r248 => ((S_spec_EdgesOf F r15.1 r15.2).bind fun r251 => ((S_laws_sameLists F r248 r251).bind fun r254 => S_laws_FnGraphs_j6 F r254))) else S_laws_FnGraphs_j6 F false))) else S_laws_FnGraphs_j6 F false)) else S_laws_FnGraphs_j6 F false) else S_laws_FnGraphs_j6 F false))) else S_laws_FnGraphs_j6 F false)) else S_laws_FnGraphs_j6 F false)))))))))

def S_laws_FnGraphs_j7 (F : Nat) (p0_code : List Int) (r15 : Int × (List (Int))) (p265 : Bool) : Option (Bool) :=
  (if p265 = true then some false else S_laws_FnGraphs_j5 F p0_code r15)

def S_laws_FnGraphs_j4 (F : Nat) (p0_code : List Int) (r15 : Int × (List (Int))) (r127 : Int × (List (Int)) × Int × Int) (r134 : Int × (List (Int)) × Bool) (r141 : Int × (List (Int)) × Bool) (p155 : Bool) : Option (Bool) :=
  (if p155 = true then some false else (if r134.2.2 = true then ((S_impl_RemoveEdge F r141.1 r141.2.1 r127.2.2.2 r127.2.2.1).bind fun r260 => (if (!r260.2.2) = true then S_laws_FnGraphs_j7 F p0_code r15 true else ((S_spec_EqualGraphs F r260.1 r260.2.1 r127.1 r127.2.1).bind fun r267 => S_laws_FnGraphs_j7 F p0_code r15 (!r267)))) else S_laws_FnGraphs_j5 F p0_code r15))

def S_laws_FnGraphs_j3 (F : Nat) (p0_code : List Int) (r15 : Int × (List (Int))) : Option (Bool) :=
  ((S_spec_DrawAddEdge F p0_code).bind fun r127 => ((S_impl_AddEdge F r127.1 r127.2.1 r127.2.2.1 r127.2.2.2).bind fun r134 => ((S_spec_AddEdge F r127.1 r127.2.1 r127.2.2.1 r127.2.2.2).bind fun r141 => (if (r134.2.2 != r141.2.2) = true then S_laws_FnGraphs_j4 F p0_code r15 r127 r134 r141 true else ((S_spec_EqualGraphs F r134.1 r134.2.1 r141.1 r141.2.1).bind fun r268 => (if (!r268) = true then S_laws_FnGraphs_j4 F p0_code r15 r127 r134 r141 true else (if r134.2.2 = true then ((S_impl_HasEdge F r141.1 r141.2.1 r127.2.2.1 r127.2.2.2).bind fun r269 => S_laws_FnGraphs_j4 F p0_code r15 r127 r134 r141 (!r269)) else S_laws_FnGraphs_j4 F p0_code r15 r127 r134 r141 false)))))))

def S_laws_FnGraphs_j8 (F : Nat) (p0_code : List Int) (r15 : Int × (List (Int))) (p286 : Bool) : Option (Bool) :=
  (if p286 = true then some false else S_laws_FnGraphs_j3 F p0_code r15)

def S_laws_FnGraphs_j2 (F : Nat) (p0_code : List Int) (r15 : Int × (List (Int))) (r77 : Int × (List (Int)) × Bool) (r84 : Int × (List (Int)) × Bool) (p95 : Bool) : Option (Bool) :=
  (if p95 = true then some false else (if r77.2.2 = true then ((S_impl_ComplementOf F r84.1 r84.2.1).bind fun r275 => (if (!r275.2.2) = true then S_laws_FnGraphs_j8 F p0_code r15 true else ((S_spec_EqualGraphs F r275.1 r275.2.1 r15.1 r15.2).bind fun r288 => (if (!r288) = true then S_laws_FnGraphs_j8 F p0_code r15 true else ((S_impl_EdgesOf F r15.1 r15.2).bind fun r289 => ((S_impl_EdgesOf F r84.1 r84.2.1).bind fun r292 => S_laws_FnGraphs_j8 F p0_code r15 ((IntKind.i64.wrap ((r289.length : Int) + (r292.length : Int))) != (IntKind.i64.wrap ((IntKind.i64.wrap (r15.1 * (IntKind.i64.wrap (r15.1 - 1)))).tdiv 2))))))))) else S_laws_FnGraphs_j3 F p0_code r15))

def S_laws_FnGraphs_j1 (F : Nat) (p0_code : List Int) (r15 : Int × (List (Int))) (p71 : Bool) : Option (Bool) :=
  (if p71 = true then some false else ((S_impl_ComplementOf F r15.1 r15.2).bind fun r77 => ((S_spec_ComplementOf F r15.1 r15.2).bind fun r84 => (if (r77.2.2 != r84.2.2) = true then S_laws_FnGraphs_j2 F p0_code r15 r77 r84 true else ((S_spec_EqualGraphs F r77.1 r77.2.1 r84.1 r84.2.1).bind fun r295 => S_laws_FnGraphs_j2 F p0_code r15 r77 r84 (!r295))))))

def S_laws_FnGraphs (F : Nat) (p0_code : List Int) : Option (Bool) :=
  ((S_laws_big F p0_code).bind fun r9 => (if r9 = true then some true else ((S_spec_DrawFormatGraph F p0_code).bind fun r15 => ((S_impl_FormatGraph F r15.1 r15.2).bind fun r20 => ((S_impl_ParseGraph F r20).bind fun r25 => ((S_spec_DrawParseGraph F p0_code).bind fun r30 => ((S_impl_ParseGraph F r30).bind fun r35 => ((S_spec_ParseGraph F r30).bind fun r42 => ((S_spec_FormatGraph F r15.1 r15.2).bind fun r296 => (if (r20 != r296) = true then S_laws_FnGraphs_j1 F p0_code r15 true else ((S_spec_IsGraph F r15.1 r15.2).bind fun r297 => (if (r25.2.2 != r297) = true then S_laws_FnGraphs_j1 F p0_code r15 true else (if r25.2.2 = true then ((S_spec_EqualGraphs F r25.1 r25.2.1 r15.1 r15.2).bind fun r298 => (if (!r298) = true then S_laws_FnGraphs_j1 F p0_code r15 true else (if (r35.2.2 != r42.2.2) = true then S_laws_FnGraphs_j1 F p0_code r15 true else ((S_impl_IsGraph F r15.1 r15.2).bind fun r299 => ((S_spec_IsGraph F r15.1 r15.2).bind fun r300 => S_laws_FnGraphs_j1 F p0_code r15 (r299 != r300)))))) else (if (r35.2.2 != r42.2.2) = true then S_laws_FnGraphs_j1 F p0_code r15 true else ((S_impl_IsGraph F r15.1 r15.2).bind fun r301 => ((S_spec_IsGraph F r15.1 r15.2).bind fun r302 => S_laws_FnGraphs_j1 F p0_code r15 (r301 != r302)))))))))))))))))

end Go.Proofs.YtdalcpadcggklaaDoor
