/- Proved here: nothing but what each Go function of the seat computes, as printed by my translator -/
import Derived.Test.YtilfniehellmmaaK8
namespace Go.Proofs.Ytilfniehellmmaa
open Go Go.RowKit
set_option linter.unusedVariables false
set_option linter.unusedSimpArgs false
set_option maxRecDepth 100000
set_option maxHeartbeats 40000000

def S_laws_big (F : Nat) (p0_code : List Int) : Option (Bool) :=
  some (decide ((1048576 : Int) < (p0_code.length : Int)))

def S_laws_sameInts_j1 (F : Nat) : Option (Bool) :=
  some true

def S_laws_sameInts_l2 (F : Nat) (p0_a : List Int) (p1_b : List Int) (x44 : Int) : Option ((Int) ⊕ (Unit ⊕ Bool)) :=
  (if (decide (x44 < (p0_a.length : Int))) = true then ((idxL p0_a x44).bind fun x74 => ((idxL p1_b x44).bind fun x75 => (if (x74 != x75) = true then some (Sum.inr (Sum.inr false)) else some (Sum.inl (IntKind.i64.wrap (x44 + 1)))))) else some (Sum.inr (Sum.inl ())))

def S_laws_sameInts (F : Nat) (p0_a : List Int) (p1_b : List Int) : Option (Bool) :=
  (if ((p0_a.length : Int) != (p1_b.length : Int)) = true then some false else (loopN (σ := Int) (β := (Unit ⊕ Bool)) (fun s => S_laws_sameInts_l2 F p0_a p1_b s) F 0).bind (fun b => (match b with | .inl o => S_laws_sameInts_j1 F | .inr o => some o)))

def S_spec_l1New_j1 (F : Nat) (x23 : Int) : Option (Int × Int) :=
  some (0, x23)

def S_spec_l1New_j3 (F : Nat) (p0_code : List Int) (x28 : Int) (x29 : Int) (p42 : Bool) : Option ((Int × Int) ⊕ (Int)) :=
  (if p42 = true then ((idxL p0_code x29).bind fun x45 => some (Sum.inl ((bAnd (IntKind.i64.wrap ((IntKind.i64.wrap ((IntKind.i64.wrap (x28 * 131)) + (IntKind.i64.wrap x45))) + 7)) 1073741823), (IntKind.i64.wrap (x29 + 1))))) else some (Sum.inr x28))

def S_spec_l1New_l2 (F : Nat) (p0_code : List Int) (x28 : Int) (x29 : Int) : Option ((Int × Int) ⊕ (Int)) :=
  (if (decide (x29 < (p0_code.length : Int))) = true then S_spec_l1New_j3 F p0_code x28 x29 (decide (x29 < 4000)) else S_spec_l1New_j3 F p0_code x28 x29 false)

def S_spec_l1New (F : Nat) (p0_code : List Int) : Option (Int × Int) :=
  (loopN (σ := (Int × Int)) (β := Int) (fun s => S_spec_l1New_l2 F p0_code s.1 s.2) F ((IntKind.i64.wrap (10101 + (p0_code.length : Int))), 0)).bind (fun b => S_spec_l1New_j1 F b)

def S_spec_l2Copy (F : Nat) (p0_g_Size : Int) (p0_g_Rows : List Int) : Option (Int × (List (Int))) :=
  ((catO ([] : List (Int)).length p0_g_Rows.length).bind fun _ => some (p0_g_Size, (([] : List (Int)) ++ p0_g_Rows)))

def S_spec_l1In_j1 (F : Nat) (p3 : Bool) : Option (Bool) :=
  some p3

def S_spec_l1In (F : Nat) (p0_x : Int) (p1_low : Int) (p2_high : Int) : Option (Bool) :=
  (if (decide (p1_low ≤ p0_x)) = true then S_spec_l1In_j1 F (decide (p0_x ≤ p2_high)) else S_spec_l1In_j1 F false)

def S_spec_IsGraph_j2 (F : Nat) : Option (Bool) :=
  some true

def S_spec_IsGraph_j4 (F : Nat) (x319 : Int) : Option ((Int) ⊕ (Unit ⊕ Bool)) :=
  some (Sum.inl (IntKind.i64.wrap (x319 + 1)))

def S_spec_IsGraph_j7 (F : Nat) (x564 : Int) (p611 : Bool) : Option ((Int) ⊕ (Unit ⊕ Bool)) :=
  (if p611 = true then some (Sum.inr (Sum.inr false)) else some (Sum.inl (IntKind.i64.wrap (x564 + 1))))

def S_spec_IsGraph_l6 (F : Nat) (p0_g_Size : Int) (p0_g_Rows : List Int) (x319 : Int) (x564 : Int) : Option ((Int) ⊕ (Unit ⊕ Bool)) :=
  (if (decide (x564 < p0_g_Size)) = true then ((idxL p0_g_Rows x319).bind fun x613 => ((nnO x564).bind fun _ => (if ((bAnd (shR x613 x564) 1) == 1) = true then ((idxL p0_g_Rows x564).bind fun x614 => (if (decide (x614 < 0)) = true then S_spec_IsGraph_j7 F x564 true else ((idxL p0_g_Rows x564).bind fun x615 => ((nnO p0_g_Size).bind fun _ => (if (decide ((shL 1 p0_g_Size) ≤ x615)) = true then S_spec_IsGraph_j7 F x564 true else ((idxL p0_g_Rows x564).bind fun x616 => ((nnO x319).bind fun _ => S_spec_IsGraph_j7 F x564 ((bAnd (shR x616 x319) 1) == 0)))))))) else S_spec_IsGraph_j7 F x564 false))) else some (Sum.inr (Sum.inl ())))

def S_spec_IsGraph_j5 (F : Nat) (p0_g_Size : Int) (p0_g_Rows : List Int) (x319 : Int) (p561 : Bool) : Option ((Int) ⊕ (Unit ⊕ Bool)) :=
  (if p561 = true then some (Sum.inr (Sum.inr false)) else (loopN (σ := Int) (β := (Unit ⊕ Bool)) (fun s => S_spec_IsGraph_l6 F p0_g_Size p0_g_Rows x319 s) F 0).bind (fun b => (match b with | .inl o => S_spec_IsGraph_j4 F x319 | .inr o => some (Sum.inr (Sum.inr o)))))

def S_spec_IsGraph_l3 (F : Nat) (p0_g_Size : Int) (p0_g_Rows : List Int) (x319 : Int) : Option ((Int) ⊕ (Unit ⊕ Bool)) :=
  (if (decide (x319 < p0_g_Size)) = true then ((idxL p0_g_Rows x319).bind fun x617 => (if (decide (x617 < 0)) = true then S_spec_IsGraph_j5 F p0_g_Size p0_g_Rows x319 true else ((idxL p0_g_Rows x319).bind fun x618 => ((nnO p0_g_Size).bind fun _ => (if (decide ((shL 1 p0_g_Size) ≤ x618)) = true then S_spec_IsGraph_j5 F p0_g_Size p0_g_Rows x319 true else ((idxL p0_g_Rows x319).bind fun x619 => ((nnO x319).bind fun _ => S_spec_IsGraph_j5 F p0_g_Size p0_g_Rows x319 ((bAnd (shR x619 x319) 1) == 1)))))))) else some (Sum.inr (Sum.inl ())))

def S_spec_IsGraph_j1 (F : Nat) (p0_g_Size : Int) (p0_g_Rows : List Int) (p12 : Bool) : Option (Bool) :=
  (if p12 = true then some false else (loopN (σ := Int) (β := (Unit ⊕ Bool)) (fun s => S_spec_IsGraph_l3 F p0_g_Size p0_g_Rows s) F 0).bind (fun b => (match b with | .inl o => S_spec_IsGraph_j2 F | .inr o => some o)))

def S_spec_IsGraph (F : Nat) (p0_g_Size : Int) (p0_g_Rows : List Int) : Option (Bool) :=
  ((S_spec_l1In F p0_g_Size 1 7).bind fun r620 => (if (!r620) = true then S_spec_IsGraph_j1 F p0_g_Size p0_g_Rows true else S_spec_IsGraph_j1 F p0_g_Size p0_g_Rows ((p0_g_Rows.length : Int) != p0_g_Size)))

def S_spec_l2Pair_j1 (F : Nat) (p6 : Bool) : Option (Bool) :=
  some p6

def S_spec_l2Pair (F : Nat) (p0_g_Size : Int) (p0_g_Rows : List Int) (p1_v : Int) (p2_w : Int) : Option (Bool) :=
  ((S_spec_IsGraph F p0_g_Size p0_g_Rows).bind fun r7 => (if r7 = true then (if (decide ((0 : Int) ≤ p1_v)) = true then (if (decide ((0 : Int) ≤ p2_w)) = true then (if (decide (p1_v < p0_g_Size)) = true then (if (decide (p2_w < p0_g_Size)) = true then S_spec_l2Pair_j1 F (p1_v != p2_w) else S_spec_l2Pair_j1 F false) else S_spec_l2Pair_j1 F false) else S_spec_l2Pair_j1 F false) else S_spec_l2Pair_j1 F false) else S_spec_l2Pair_j1 F false))

def S_spec_l2Edge (F : Nat) (p0_g_Size : Int) (p0_g_Rows : List Int) (p1_v : Int) (p2_w : Int) : Option (Bool) :=
  ((idxL p0_g_Rows p1_v).bind fun x6 => ((nnO p2_w).bind fun _ => some ((bAnd (shR x6 p2_w) 1) == 1)))

def S_spec_AddEdge_j1 (F : Nat) (p1_v : Int) (p2_w : Int) (r10 : Int × (List (Int))) (p24 : Bool) : Option (Int × (List (Int)) × Bool) :=
  (if p24 = true then some (r10.1, r10.2, false) else ((idxL r10.2 p1_v).bind fun x29 => ((nnO p2_w).bind fun _ => ((idxL r10.2 p1_v).bind fun x30 => ((idxL (r10.2.set (p1_v.toNat) (IntKind.i64.wrap (x29 + (shL 1 p2_w)))) p2_w).bind fun x34 => ((nnO p1_v).bind fun _ => ((idxL (r10.2.set (p1_v.toNat) (IntKind.i64.wrap (x29 + (shL 1 p2_w)))) p2_w).bind fun x35 => some (r10.1, ((r10.2.set (p1_v.toNat) (IntKind.i64.wrap (x29 + (shL 1 p2_w)))).set (p2_w.toNat) (IntKind.i64.wrap (x34 + (shL 1 p1_v)))), true))))))))

def S_spec_AddEdge (F : Nat) (p0_g_Size : Int) (p0_g_Rows : List Int) (p1_v : Int) (p2_w : Int) : Option (Int × (List (Int)) × Bool) :=
  ((S_spec_l2Copy F p0_g_Size p0_g_Rows).bind fun r10 => ((S_spec_l2Pair F p0_g_Size p0_g_Rows p1_v p2_w).bind fun r37 => (if (!r37) = true then S_spec_AddEdge_j1 F p1_v p2_w r10 true else ((S_spec_l2Edge F p0_g_Size p0_g_Rows p1_v p2_w).bind fun r38 => S_spec_AddEdge_j1 F p1_v p2_w r10 r38))))

def S_spec_NamedGraph_j2 (F : Nat) (x1000 : Int) (l1002 : List Int) (p1008 : Bool) : Option (Int × (List (Int)) × Bool) :=
  (if p1008 = true then some (0, ([] : List (Int)), false) else some (x1000, l1002, true))

def S_spec_NamedGraph_j1 (F : Nat) (p0_name : List UInt8) (p1_n : Int) (x1000 : Int) (l1002 : List Int) : Option (Int × (List (Int)) × Bool) :=
  (if (p1_n == 1) = true then (if (p0_name != ([112, 97, 116, 104] : List UInt8)) = true then (if (p0_name != ([99, 121, 99, 108, 101] : List UInt8)) = true then (if (p0_name != ([99, 111, 109, 112, 108, 101, 116, 101] : List UInt8)) = true then (if (p0_name != ([115, 116, 97, 114] : List UInt8)) = true then (if (p0_name != ([119, 104, 101, 101, 108] : List UInt8)) = true then S_spec_NamedGraph_j2 F x1000 l1002 (p0_name != ([101, 109, 112, 116, 121] : List UInt8)) else S_spec_NamedGraph_j2 F x1000 l1002 false) else S_spec_NamedGraph_j2 F x1000 l1002 false) else S_spec_NamedGraph_j2 F x1000 l1002 false) else S_spec_NamedGraph_j2 F x1000 l1002 false) else S_spec_NamedGraph_j2 F x1000 l1002 false) else S_spec_NamedGraph_j2 F x1000 l1002 false)

def S_spec_NamedGraph_j4 (F : Nat) (x1341 : Int) (x1830 : Int) (l1832 : List Int) : Option ((Int × (List Int) × Int) ⊕ ((Int × (List Int)) ⊕ (Int × (List (Int)) × Bool))) :=
  some (Sum.inl (x1830, l1832, (IntKind.i64.wrap (x1341 + 1))))

def S_spec_NamedGraph_j6 (F : Nat) (x1889 : Int) (x1967 : Int) (l1969 : List Int) : Option ((Int × (List Int) × Int) ⊕ ((Int × (List Int)) ⊕ (Int × (List (Int)) × Bool))) :=
  some (Sum.inl (x1967, l1969, (IntKind.i64.wrap (x1889 + 1))))

def S_spec_NamedGraph_j7 (F : Nat) (x1341 : Int) (x1886 : Int) (l1888 : List Int) (x1889 : Int) (p1980 : Bool) : Option ((Int × (List Int) × Int) ⊕ ((Int × (List Int)) ⊕ (Int × (List (Int)) × Bool))) :=
  (if p1980 = true then ((S_spec_AddEdge F x1886 l1888 x1341 x1889).bind fun r1982 => S_spec_NamedGraph_j6 F x1889 r1982.1 r1982.2.1) else S_spec_NamedGraph_j6 F x1889 x1886 l1888)

def S_spec_NamedGraph_l5 (F : Nat) (p0_name : List UInt8) (p1_n : Int) (x1341 : Int) (x1886 : Int) (l1888 : List Int) (x1889 : Int) : Option ((Int × (List Int) × Int) ⊕ ((Int × (List Int)) ⊕ (Int × (List (Int)) × Bool))) :=
  (if (decide (x1889 < p1_n)) = true then (if (p0_name == ([112, 97, 116, 104] : List UInt8)) = true then S_spec_NamedGraph_j7 F x1341 x1886 l1888 x1889 (x1889 == (IntKind.i64.wrap (x1341 + 1))) else (if (p0_name == ([99, 121, 99, 108, 101] : List UInt8)) = true then (if (x1889 == (IntKind.i64.wrap (x1341 + 1))) = true then S_spec_NamedGraph_j7 F x1341 x1886 l1888 x1889 true else (if (x1341 == 0) = true then S_spec_NamedGraph_j7 F x1341 x1886 l1888 x1889 (x1889 == (IntKind.i64.wrap (p1_n - 1))) else S_spec_NamedGraph_j7 F x1341 x1886 l1888 x1889 false)) else (if (p0_name == ([99, 111, 109, 112, 108, 101, 116, 101] : List UInt8)) = true then S_spec_NamedGraph_j7 F x1341 x1886 l1888 x1889 true else (if (p0_name == ([115, 116, 97, 114] : List UInt8)) = true then S_spec_NamedGraph_j7 F x1341 x1886 l1888 x1889 (x1341 == 0) else (if (p0_name == ([119, 104, 101, 101, 108] : List UInt8)) = true then (if (x1341 == 0) = true then S_spec_NamedGraph_j7 F x1341 x1886 l1888 x1889 true else (if (x1889 == (IntKind.i64.wrap (x1341 + 1))) = true then S_spec_NamedGraph_j7 F x1341 x1886 l1888 x1889 true else (if (x1341 == 1) = true then S_spec_NamedGraph_j7 F x1341 x1886 l1888 x1889 (x1889 == (IntKind.i64.wrap (p1_n - 1))) else S_spec_NamedGraph_j7 F x1341 x1886 l1888 x1889 false))) else (if (p0_name == ([101, 109, 112, 116, 121] : List UInt8)) = true then S_spec_NamedGraph_j7 F x1341 x1886 l1888 x1889 false else some (Sum.inr (Sum.inr (0, ([] : List (Int)), false))))))))) else some (Sum.inr (Sum.inl (x1886, l1888))))

def S_spec_NamedGraph_l3 (F : Nat) (p0_name : List UInt8) (p1_n : Int) (x1338 : Int) (l1340 : List Int) (x1341 : Int) : Option ((Int × (List Int) × Int) ⊕ ((Int × (List Int)) ⊕ (Int × (List (Int)) × Bool))) :=
  (if (decide (x1341 < p1_n)) = true then (loopN (σ := (Int × (List Int) × Int)) (β := ((Int × (List Int)) ⊕ (Int × (List (Int)) × Bool))) (fun s => S_spec_NamedGraph_l5 F p0_name p1_n x1341 s.1 s.2.1 s.2.2) F (x1338, l1340, (IntKind.i64.wrap (x1341 + 1)))).bind (fun b => (match b with | .inl o => S_spec_NamedGraph_j4 F x1341 o.1 o.2 | .inr o => some (Sum.inr (Sum.inr o)))) else some (Sum.inr (Sum.inl (x1338, l1340))))

def S_spec_NamedGraph (F : Nat) (p0_name : List UInt8) (p1_n : Int) : Option (Int × (List (Int)) × Bool) :=
  ((S_spec_l1In F p1_n 1 7).bind fun r11 => (if (!r11) = true then some (0, ([] : List (Int)), false) else ((mkO p1_n).bind fun _ => (loopN (σ := (Int × (List Int) × Int)) (β := ((Int × (List Int)) ⊕ (Int × (List (Int)) × Bool))) (fun s => S_spec_NamedGraph_l3 F p0_name p1_n s.1 s.2.1 s.2.2) F (p1_n, (List.replicate p1_n.toNat (0 : Int)), 0)).bind (fun b => (match b with | .inl o => S_spec_NamedGraph_j1 F p0_name p1_n o.1 o.2 | .inr o => some o)))))

def S_spec_l1Byte_j1 (F : Nat) (p0_c_h : Int) (x9 : Int) (x10 : Int) : Option (Int × Int × Int) :=
  some (x9, x10, (IntKind.i64.wrap ((IntKind.i64.wrap (p0_c_h * 6364136223846793005)) + 1442695040888963407)))

def S_spec_l1Byte (F : Nat) (p0_c_b : List Int) (p0_c_i : Int) (p0_c_h : Int) : Option (Int × Int × Int) :=
  (if (decide (p0_c_i < (p0_c_b.length : Int))) = true then ((idxL p0_c_b p0_c_i).bind fun x15 => S_spec_l1Byte_j1 F p0_c_h (bAnd (IntKind.i64.wrap ((bAnd (bXor (shR (IntKind.i64.wrap ((IntKind.i64.wrap (p0_c_h * 6364136223846793005)) + 1442695040888963407)) 33) (shR (IntKind.i64.wrap ((IntKind.i64.wrap (p0_c_h * 6364136223846793005)) + 1442695040888963407)) 45)) 255) + (IntKind.i64.wrap x15))) 255) (IntKind.i64.wrap (p0_c_i + 1))) else S_spec_l1Byte_j1 F p0_c_h (bAnd (bXor (shR (IntKind.i64.wrap ((IntKind.i64.wrap (p0_c_h * 6364136223846793005)) + 1442695040888963407)) 33) (shR (IntKind.i64.wrap ((IntKind.i64.wrap (p0_c_h * 6364136223846793005)) + 1442695040888963407)) 45)) 255) p0_c_i)

def S_spec_l1Below (F : Nat) (p0_c_b : List Int) (p0_c_i : Int) (p0_c_h : Int) (p1_n : Int) : Option (Int × Int × Int) :=
  (if (decide (p1_n ≤ 0)) = true then some (0, p0_c_i, p0_c_h) else (if (decide (p1_n ≤ 256)) = true then ((S_spec_l1Byte F p0_c_b p0_c_i p0_c_h).bind fun r15 => ((nzO p1_n).bind fun _ => some ((r15.1.tmod p1_n), r15.2.1, r15.2.2))) else ((S_spec_l1Byte F p0_c_b p0_c_i p0_c_h).bind fun r18 => ((S_spec_l1Byte F p0_c_b r18.2.1 r18.2.2).bind fun r21 => ((S_spec_l1Byte F p0_c_b r21.2.1 r21.2.2).bind fun r24 => ((S_spec_l1Byte F p0_c_b r24.2.1 r24.2.2).bind fun r27 => ((nzO p1_n).bind fun _ => some (((IntKind.i64.wrap ((IntKind.i64.wrap ((IntKind.i64.wrap ((IntKind.i64.wrap (r18.1 * 16777216)) + (IntKind.i64.wrap (r21.1 * 65536)))) + (IntKind.i64.wrap (r24.1 * 256)))) + r27.1)).tmod p1_n), r27.2.1, r27.2.2))))))))

def S_spec_l1Pick (F : Nat) (p0_c_b : List Int) (p0_c_i : Int) (p0_c_h : Int) (p1_list : List (List UInt8)) : Option ((List UInt8) × Int × Int) :=
  ((S_spec_l1Below F p0_c_b p0_c_i p0_c_h (p1_list.length : Int)).bind fun r5 => ((idxL p1_list r5.1).bind fun x6 => some (x6, r5.2.1, r5.2.2)))

def S_spec_l2Random_j1 (F : Nat) (x435 : Int) (l437 : List Int) (x438 : Int) (x439 : Int) : Option (Int × (List (Int)) × Int × Int) :=
  some (x435, l437, x438, x439)

def S_spec_l2Random_j3 (F : Nat) (x587 : Int) (x796 : Int) (x797 : Int) (x798 : Int) (l800 : List Int) : Option ((Int × Int × Int × (List Int) × Int) ⊕ ((Int × (List Int) × Int × Int))) :=
  some (Sum.inl (x796, x797, x798, l800, (IntKind.i64.wrap (x587 + 1))))

def S_spec_l2Random_j5 (F : Nat) (x827 : Int) (x856 : Int) (x857 : Int) (x858 : Int) (l860 : List Int) : Option ((Int × Int × Int × (List Int) × Int) ⊕ ((Int × Int × Int × (List Int)))) :=
  some (Sum.inl (x856, x857, x858, l860, (IntKind.i64.wrap (x827 + 1))))

def S_spec_l2Random_l4 (F : Nat) (p0_c_b : List Int) (p1_n : Int) (p2_odd : Int) (x587 : Int) (x822 : Int) (x823 : Int) (x824 : Int) (l826 : List Int) (x827 : Int) : Option ((Int × Int × Int × (List Int) × Int) ⊕ ((Int × Int × Int × (List Int)))) :=
  (if (decide (x827 < p1_n)) = true then ((S_spec_l1Below F p0_c_b x822 x823 10).bind fun r863 => (if (decide (r863.1 < p2_odd)) = true then ((S_spec_AddEdge F x824 l826 x587 x827).bind fun r864 => S_spec_l2Random_j5 F x827 r863.2.1 r863.2.2 r864.1 r864.2.1) else S_spec_l2Random_j5 F x827 r863.2.1 r863.2.2 x824 l826)) else some (Sum.inr (x822, x823, x824, l826)))

def S_spec_l2Random_l2 (F : Nat) (p0_c_b : List Int) (p1_n : Int) (p2_odd : Int) (x582 : Int) (x583 : Int) (x584 : Int) (l586 : List Int) (x587 : Int) : Option ((Int × Int × Int × (List Int) × Int) ⊕ ((Int × (List Int) × Int × Int))) :=
  (if (decide (x587 < p1_n)) = true then (loopN (σ := (Int × Int × Int × (List Int) × Int)) (β := ((Int × Int × Int × (List Int)))) (fun s => S_spec_l2Random_l4 F p0_c_b p1_n p2_odd x587 s.1 s.2.1 s.2.2.1 s.2.2.2.1 s.2.2.2.2) F (x582, x583, x584, l586, (IntKind.i64.wrap (x587 + 1)))).bind (fun b => S_spec_l2Random_j3 F x587 b.1 b.2.1 b.2.2.1 b.2.2.2) else some (Sum.inr (x584, l586, x582, x583)))

def S_spec_l2Random (F : Nat) (p0_c_b : List Int) (p0_c_i : Int) (p0_c_h : Int) (p1_n : Int) (p2_odd : Int) : Option (Int × (List (Int)) × Int × Int) :=
  ((mkO p1_n).bind fun _ => (loopN (σ := (Int × Int × Int × (List Int) × Int)) (β := ((Int × (List Int) × Int × Int))) (fun s => S_spec_l2Random_l2 F p0_c_b p1_n p2_odd s.1 s.2.1 s.2.2.1 s.2.2.2.1 s.2.2.2.2) F (p0_c_i, p0_c_h, p1_n, (List.replicate p1_n.toNat (0 : Int)), 0)).bind (fun b => S_spec_l2Random_j1 F b.1 b.2.1 b.2.2.1 b.2.2.2))

def S_spec_l1Once (F : Nat) (p0_c_b : List Int) (p0_c_i : Int) (p0_c_h : Int) (p1_n : Int) : Option (Bool × Int × Int) :=
  ((S_spec_l1Below F p0_c_b p0_c_i p0_c_h p1_n).bind fun r4 => some ((r4.1 == 0), r4.2.1, r4.2.2))

def S_spec_l2Draw_j1 (F : Nat) (x79 : Int) (l81 : List Int) (x82 : Int) (x83 : Int) : Option (Int × (List (Int)) × Int × Int) :=
  some (x79, l81, x82, x83)

def S_spec_l2Draw (F : Nat) (p0_c_b : List Int) (p0_c_i : Int) (p0_c_h : Int) : Option (Int × (List (Int)) × Int × Int) :=
  ((S_spec_l1Below F p0_c_b p0_c_i p0_c_h 6).bind fun r6 => ((S_spec_l1Below F p0_c_b r6.2.1 r6.2.2 4).bind fun r54 => (if (r54.1 == 0) = true then ((S_spec_l1Pick F p0_c_b r54.2.1 r54.2.2 ([([112, 97, 116, 104] : List UInt8), ([99, 121, 99, 108, 101] : List UInt8), ([99, 111, 109, 112, 108, 101, 116, 101] : List UInt8), ([115, 116, 97, 114] : List UInt8), ([119, 104, 101, 101, 108] : List UInt8)] : List (List UInt8))).bind fun r63 => ((S_spec_NamedGraph F r63.1 (IntKind.i64.wrap (1 + r6.1))).bind fun r64 => ((S_spec_l1Below F p0_c_b r63.2.1 r63.2.2 (IntKind.i64.wrap (1 + r6.1))).bind fun r69 => ((S_spec_l1Below F p0_c_b r69.2.1 r69.2.2 (IntKind.i64.wrap (1 + r6.1))).bind fun r72 => ((S_spec_l1Once F p0_c_b r72.2.1 r72.2.2 2).bind fun r87 => (if r87.1 = true then ((S_spec_AddEdge F r64.1 r64.2.1 r69.1 r72.1).bind fun r88 => S_spec_l2Draw_j1 F r88.1 r88.2.1 r87.2.1 r87.2.2) else S_spec_l2Draw_j1 F r64.1 r64.2.1 r87.2.1 r87.2.2)))))) else (if (r54.1 == 1) = true then ((S_spec_l2Random F p0_c_b r54.2.1 r54.2.2 (IntKind.i64.wrap (1 + r6.1)) 7).bind fun r94 => some (r94.1, r94.2.1, r94.2.2.1, r94.2.2.2)) else ((S_spec_l2Random F p0_c_b r54.2.1 r54.2.2 (IntKind.i64.wrap (1 + r6.1)) 4).bind fun r99 => some (r99.1, r99.2.1, r99.2.2.1, r99.2.2.2))))))

def S_spec_l1PickInt (F : Nat) (p0_c_b : List Int) (p0_c_i : Int) (p0_c_h : Int) (p1_list : List Int) : Option (Int × Int × Int) :=
  ((S_spec_l1Below F p0_c_b p0_c_i p0_c_h (p1_list.length : Int)).bind fun r5 => ((idxL p1_list r5.1).bind fun x6 => some (x6, r5.2.1, r5.2.2)))

def S_spec_l2Any_j1 (F : Nat) (x22 : Int) (l23 : List Int) (x24 : Int) (x25 : Int) : Option (Int × (List (Int)) × Int × Int) :=
  some (x22, l23, x24, x25)

def S_spec_l2Any (F : Nat) (p0_c_b : List Int) (p0_c_i : Int) (p0_c_h : Int) : Option (Int × (List (Int)) × Int × Int) :=
  ((S_spec_l2Draw F p0_c_b p0_c_i p0_c_h).bind fun r8 => ((S_spec_l1Below F p0_c_b r8.2.2.1 r8.2.2.2 18).bind fun r29 => (if (r29.1 == 0) = true then ((S_spec_l1PickInt F p0_c_b r29.2.1 r29.2.2 ([0, (-1), 8, 3] : List (Int))).bind fun r32 => S_spec_l2Any_j1 F r32.1 r8.2.1 r32.2.1 r32.2.2) else (if (r29.1 == 1) = true then ((S_spec_l1PickInt F p0_c_b r29.2.1 r29.2.2 ([(-1), 1, 2, 128, 9223372036854775807] : List (Int))).bind fun r35 => ((idxL r8.2.1 0).bind fun x36 => S_spec_l2Any_j1 F r8.1 (r8.2.1.set ((0 : Int).toNat) r35.1) r35.2.1 r35.2.2)) else S_spec_l2Any_j1 F r8.1 r8.2.1 r29.2.1 r29.2.2))))

def S_spec_l5Both (F : Nat) (p0_code : List Int) : Option (Int × (List (Int)) × Int) :=
  ((S_spec_l1New F p0_code).bind fun r7 => ((S_spec_l2Any F p0_code r7.1 r7.2).bind fun r13 => ((S_spec_l1Below F p0_code r13.2.2.1 r13.2.2.2 8).bind fun r18 => some (r13.1, r13.2.1, (IntKind.i64.wrap (r18.1 - 1))))))

def S_spec_DrawLexOrder (F : Nat) (p0_code : List Int) : Option (Int × (List (Int)) × Int) :=
  ((S_spec_l5Both F p0_code).bind fun r8 => some (r8.1, r8.2.1, r8.2.2))

def S_impl_label_j1 (F : Nat) (x31 : Int) : Option (Int) :=
  some x31

def S_impl_label_l2 (F : Nat) (p0_g_Rows : List Int) (p1_v : Int) (p2_order : List Int) (x34 : Int) (x35 : Int) : Option ((Int × Int) ⊕ (Int)) :=
  (if (decide (x35 < (p2_order.length : Int))) = true then ((idxL p2_order x35).bind fun x56 => ((idxL p0_g_Rows p1_v).bind fun x57 => ((nnO x56).bind fun _ => some (Sum.inl ((IntKind.i64.wrap ((IntKind.i64.wrap (2 * x34)) + (bAnd (shR x57 x56) 1))), (IntKind.i64.wrap (x35 + 1))))))) else some (Sum.inr x34))

def S_impl_label (F : Nat) (p0_g_Size : Int) (p0_g_Rows : List Int) (p1_v : Int) (p2_order : List Int) : Option (Int) :=
  (loopN (σ := (Int × Int)) (β := Int) (fun s => S_impl_label_l2 F p0_g_Rows p1_v p2_order s.1 s.2) F (0, 0)).bind (fun b => S_impl_label_j1 F b)

def S_impl_LexOrder_c1 (F : Nat) (p0_v : Int) (p1_order : List Int) (q0_Size : Int) (q0_Rows : List Int) : Option (Int) :=
  ((S_impl_label F q0_Size q0_Rows p0_v p1_order).bind fun r4 => some r4)

def S_impl_has (F : Nat) (p0_set : Int) (p1_v : Int) : Option (Bool) :=
  ((nnO p1_v).bind fun _ => some ((bAnd (shR p0_set p1_v) 1) == 1))

def S_impl_within_j1 (F : Nat) (p3 : Bool) : Option (Bool) :=
  some p3

def S_impl_within (F : Nat) (p0_n : Int) (p1_low : Int) (p2_high : Int) : Option (Bool) :=
  (if (decide (p1_low ≤ p0_n)) = true then S_impl_within_j1 F (decide (p0_n ≤ p2_high)) else S_impl_within_j1 F false)

def S_impl_IsGraph_j3 (F : Nat) : Option (Bool) :=
  some true

def S_impl_IsGraph_j5 (F : Nat) (x262 : Int) : Option ((Int) ⊕ (Unit ⊕ Bool)) :=
  some (Sum.inl (IntKind.i64.wrap (x262 + 1)))

def S_impl_IsGraph_l6 (F : Nat) (p0_g_Rows : List Int) (x262 : Int) (x412 : Int) (x414 : Int) : Option ((Int) ⊕ (Unit ⊕ Bool)) :=
  (if (decide (x414 < x262)) = true then ((idxL p0_g_Rows x414).bind fun x453 => ((S_impl_has F x412 x414).bind fun r454 => ((S_impl_has F x453 x262).bind fun r455 => (if (r454 != r455) = true then some (Sum.inr (Sum.inr false)) else some (Sum.inl (IntKind.i64.wrap (x414 + 1))))))) else some (Sum.inr (Sum.inl ())))

def S_impl_IsGraph_l4 (F : Nat) (p0_g_Rows : List Int) (x262 : Int) : Option ((Int) ⊕ (Unit ⊕ Bool)) :=
  (if (decide (x262 < (p0_g_Rows.length : Int))) = true then ((idxL p0_g_Rows x262).bind fun x412 => (loopN (σ := Int) (β := (Unit ⊕ Bool)) (fun s => S_impl_IsGraph_l6 F p0_g_Rows x262 x412 s) F 0).bind (fun b => (match b with | .inl o => S_impl_IsGraph_j5 F x262 | .inr o => some (Sum.inr (Sum.inr o))))) else some (Sum.inr (Sum.inl ())))

def S_impl_IsGraph_j2 (F : Nat) (p0_g_Rows : List Int) : Option (Bool) :=
  (loopN (σ := Int) (β := (Unit ⊕ Bool)) (fun s => S_impl_IsGraph_l4 F p0_g_Rows s) F 0).bind (fun b => (match b with | .inl o => S_impl_IsGraph_j3 F | .inr o => some o))

def S_impl_IsGraph_j8 (F : Nat) (x458 : Int) (p501 : Bool) : Option ((Int) ⊕ (Unit ⊕ Bool)) :=
  (if p501 = true then some (Sum.inr (Sum.inr false)) else some (Sum.inl (IntKind.i64.wrap (x458 + 1))))

def S_impl_IsGraph_l7 (F : Nat) (p0_g_Size : Int) (p0_g_Rows : List Int) (x458 : Int) : Option ((Int) ⊕ (Unit ⊕ Bool)) :=
  (if (decide (x458 < (p0_g_Rows.length : Int))) = true then ((idxL p0_g_Rows x458).bind fun x497 => ((nnO p0_g_Size).bind fun _ => ((S_impl_within F x497 0 (IntKind.i64.wrap ((shL 1 p0_g_Size) - 1))).bind fun r503 => (if (!r503) = true then S_impl_IsGraph_j8 F x458 true else ((S_impl_has F x497 x458).bind fun r504 => S_impl_IsGraph_j8 F x458 r504))))) else some (Sum.inr (Sum.inl ())))

def S_impl_IsGraph_j1 (F : Nat) (p0_g_Size : Int) (p0_g_Rows : List Int) (p12 : Bool) : Option (Bool) :=
  (if p12 = true then some false else (loopN (σ := Int) (β := (Unit ⊕ Bool)) (fun s => S_impl_IsGraph_l7 F p0_g_Size p0_g_Rows s) F 0).bind (fun b => (match b with | .inl o => S_impl_IsGraph_j2 F p0_g_Rows | .inr o => some o)))

def S_impl_IsGraph (F : Nat) (p0_g_Size : Int) (p0_g_Rows : List Int) : Option (Bool) :=
  ((S_impl_within F p0_g_Size 1 7).bind fun r505 => (if (!r505) = true then S_impl_IsGraph_j1 F p0_g_Size p0_g_Rows true else S_impl_IsGraph_j1 F p0_g_Size p0_g_Rows ((p0_g_Rows.length : Int) != p0_g_Size)))

def S_impl_isVertex_j1 (F : Nat) (p0_g_Size : Int) (p0_g_Rows : List Int) : Option (Bool) :=
  ((S_impl_IsGraph F p0_g_Size p0_g_Rows).bind fun r43 => some r43)

def S_impl_isVertex_l2 (F : Nat) (p0_g_Size : Int) (p1_vertices : List Int) (x45 : Int) : Option ((Int) ⊕ (Unit ⊕ Bool)) :=
  (if (decide (x45 < (p1_vertices.length : Int))) = true then ((idxL p1_vertices x45).bind fun x75 => ((S_impl_within F x75 0 (IntKind.i64.wrap (p0_g_Size - 1))).bind fun r78 => (if (!r78) = true then some (Sum.inr (Sum.inr false)) else some (Sum.inl (IntKind.i64.wrap (x45 + 1)))))) else some (Sum.inr (Sum.inl ())))

def S_impl_isVertex (F : Nat) (p0_g_Size : Int) (p0_g_Rows : List Int) (p1_vertices : List Int) : Option (Bool) :=
  (loopN (σ := Int) (β := (Unit ⊕ Bool)) (fun s => S_impl_isVertex_l2 F p0_g_Size p1_vertices s) F 0).bind (fun b => (match b with | .inl o => S_impl_isVertex_j1 F p0_g_Size p0_g_Rows | .inr o => some o))

def S_slices_Index_int_j1 (F : Nat) : Option (Int) :=
  some (-1)

def S_slices_Index_int_l2 (F : Nat) (p0_s : List Int) (p1_v : Int) (x33 : Int) : Option ((Int) ⊕ (Unit ⊕ Int)) :=
  (if (decide (x33 < (p0_s.length : Int))) = true then ((idxL p0_s x33).bind fun x58 => (if (p1_v == x58) = true then some (Sum.inr (Sum.inr x33)) else some (Sum.inl (IntKind.i64.wrap (x33 + 1))))) else some (Sum.inr (Sum.inl ())))

def S_slices_Index_int (F : Nat) (p0_s : List Int) (p1_v : Int) : Option (Int) :=
  (loopN (σ := Int) (β := (Unit ⊕ Int)) (fun s => S_slices_Index_int_l2 F p0_s p1_v s) F 0).bind (fun b => (match b with | .inl o => S_slices_Index_int_j1 F | .inr o => some o))

def S_slices_Contains_int (F : Nat) (p0_s : List Int) (p1_v : Int) : Option (Bool) :=
  ((S_slices_Index_int F p0_s p1_v).bind fun r4 => some (decide ((0 : Int) ≤ r4)))

def S_impl_greedyOrder__LexOrderc1_j1 (F : Nat) (l224 : List Int) : Option ((List (Int)) × Bool) :=
  some (l224, true)

def S_impl_greedyOrder__LexOrderc1_j3 (F : Nat) (l227 : List Int) (x379 : Int) : Option (((List Int)) ⊕ (((List Int)))) :=
  ((catO l227.length ([x379] : List (Int)).length).bind fun _ => some (Sum.inl (l227 ++ ([x379] : List (Int)))))

def S_impl_greedyOrder__LexOrderc1_j5 (F : Nat) (x385 : Int) (x418 : Int) (x419 : Int) : Option ((Int × Int × Int) ⊕ (Int)) :=
  some (Sum.inl (x418, x419, (IntKind.i64.wrap (x385 + 1))))

def S_impl_greedyOrder__LexOrderc1_j6 (F : Nat) (x383 : Int) (x384 : Int) (x385 : Int) (r423 : Int) (p426 : Bool) : Option ((Int × Int × Int) ⊕ (Int)) :=
  (if p426 = true then S_impl_greedyOrder__LexOrderc1_j5 F x385 x385 r423 else S_impl_greedyOrder__LexOrderc1_j5 F x385 x383 x384)

def S_impl_greedyOrder__LexOrderc1_l4 (F : Nat) (p0_g_Size : Int) (p2_number_c0_Size : Int) (p2_number_c0_Rows : List Int) (l227 : List Int) (x383 : Int) (x384 : Int) (x385 : Int) : Option ((Int × Int × Int) ⊕ (Int)) :=
  (if (decide (x385 < p0_g_Size)) = true then ((S_impl_LexOrder_c1 F x385 l227 p2_number_c0_Size p2_number_c0_Rows).bind fun r423 => ((S_slices_Contains_int F l227 x385).bind fun r427 => (if (!r427) = true then S_impl_greedyOrder__LexOrderc1_j6 F x383 x384 x385 r423 (decide (x384 < r423)) else S_impl_greedyOrder__LexOrderc1_j6 F x383 x384 x385 r423 false))) else some (Sum.inr x383))

def S_impl_greedyOrder__LexOrderc1_l2 (F : Nat) (p0_g_Size : Int) (p2_number_c0_Size : Int) (p2_number_c0_Rows : List Int) (l227 : List Int) : Option (((List Int)) ⊕ (((List Int)))) :=
  (if (decide ((l227.length : Int) < p0_g_Size)) = true then (loopN (σ := (Int × Int × Int)) (β := Int) (fun s => S_impl_greedyOrder__LexOrderc1_l4 F p0_g_Size p2_number_c0_Size p2_number_c0_Rows l227 s.1 s.2.1 s.2.2) F ((-1), (-1), 0)).bind (fun b => S_impl_greedyOrder__LexOrderc1_j3 F l227 b) else some (Sum.inr l227))

def S_impl_greedyOrder__LexOrderc1 (F : Nat) (p0_g_Size : Int) (p0_g_Rows : List Int) (p1_start : Int) (p2_number_c0_Size : Int) (p2_number_c0_Rows : List Int) : Option ((List (Int)) × Bool) :=
  ((S_impl_isVertex F p0_g_Size p0_g_Rows ([p1_start] : List (Int))).bind fun r15 => (if (!r15) = true then some (([] : List (Int)), false) else (loopN (σ := ((List Int))) (β := (((List Int)))) (fun s => S_impl_greedyOrder__LexOrderc1_l2 F p0_g_Size p2_number_c0_Size p2_number_c0_Rows s) F ([p1_start] : List (Int))).bind (fun b => S_impl_greedyOrder__LexOrderc1_j1 F b)))

def S_impl_LexOrder (F : Nat) (p0_g_Size : Int) (p0_g_Rows : List Int) (p1_start : Int) : Option ((List (Int)) × Bool) :=
  ((S_impl_greedyOrder__LexOrderc1 F p0_g_Size p0_g_Rows p1_start p0_g_Size p0_g_Rows).bind fun r7 => some (r7.1, r7.2))

def S_spec_l5Label_j1 (F : Nat) (x47 : Int) : Option (Int) :=
  some x47

def S_spec_l5Label_j3 (F : Nat) (x51 : Int) (x82 : Int) : Option ((Int × Int) ⊕ (Int)) :=
  some (Sum.inl (x82, (IntKind.i64.wrap (x51 + 1))))

def S_spec_l5Label_j4 (F : Nat) (x50 : Int) (x51 : Int) (p87 : Bool) : Option ((Int × Int) ⊕ (Int)) :=
  (if p87 = true then S_spec_l5Label_j3 F x51 (IntKind.i64.wrap ((IntKind.i64.wrap (x50 * 2)) + 1)) else S_spec_l5Label_j3 F x51 (IntKind.i64.wrap (x50 * 2)))

def S_spec_l5Label_l2 (F : Nat) (p0_g_Size : Int) (p0_g_Rows : List Int) (p1_order : List Int) (p2_v : Int) (x50 : Int) (x51 : Int) : Option ((Int × Int) ⊕ (Int)) :=
  (if (decide (x51 < 7)) = true then (if (decide (x51 < (p1_order.length : Int))) = true then ((idxL p1_order x51).bind fun x88 => ((S_spec_l2Edge F p0_g_Size p0_g_Rows x88 p2_v).bind fun r89 => S_spec_l5Label_j4 F x50 x51 r89)) else S_spec_l5Label_j4 F x50 x51 false) else some (Sum.inr x50))

def S_spec_l5Label (F : Nat) (p0_g_Size : Int) (p0_g_Rows : List Int) (p1_order : List Int) (p2_v : Int) : Option (Int) :=
  (loopN (σ := (Int × Int)) (β := Int) (fun s => S_spec_l5Label_l2 F p0_g_Size p0_g_Rows p1_order p2_v s.1 s.2) F (0, 0)).bind (fun b => S_spec_l5Label_j1 F b)

def S_spec_LexOrder_j2 (F : Nat) (l197 : List Int) : Option ((List (Int)) × Bool) :=
  some (l197, true)

def S_spec_LexOrder_j4 (F : Nat) (l200 : List Int) (x201 : Int) (x329 : Int) : Option (((List Int) × Int) ⊕ (((List Int)))) :=
  ((catO l200.length ([x329] : List (Int)).length).bind fun _ => ((nnO x329).bind fun _ => some (Sum.inl ((l200 ++ ([x329] : List (Int))), (IntKind.i64.wrap (x201 + (shL 1 x329)))))))

def S_spec_LexOrder_j6 (F : Nat) (x337 : Int) (x365 : Int) : Option ((Int × Int) ⊕ (Int)) :=
  some (Sum.inl (x365, (IntKind.i64.wrap (x337 + 1))))

def S_spec_LexOrder_j7 (F : Nat) (x336 : Int) (x337 : Int) (p369 : Bool) : Option ((Int × Int) ⊕ (Int)) :=
  (if p369 = true then S_spec_LexOrder_j6 F x337 x337 else S_spec_LexOrder_j6 F x337 x336)

def S_spec_LexOrder_l5 (F : Nat) (p0_g_Size : Int) (p0_g_Rows : List Int) (l200 : List Int) (x201 : Int) (x336 : Int) (x337 : Int) : Option ((Int × Int) ⊕ (Int)) :=
  (if (decide (x337 < p0_g_Size)) = true then ((nnO x337).bind fun _ => (if ((bAnd (shR x201 x337) 1) == 0) = true then (if (decide (x336 < 0)) = true then S_spec_LexOrder_j7 F x336 x337 true else ((S_spec_l5Label F p0_g_Size p0_g_Rows l200 x337).bind fun r370 => ((S_spec_l5Label F p0_g_Size p0_g_Rows l200 x336).bind fun r371 => S_spec_LexOrder_j7 F x336 x337 (decide (r371 < r370))))) else S_spec_LexOrder_j7 F x336 x337 false)) else some (Sum.inr x336))

def S_spec_LexOrder_l3 (F : Nat) (p0_g_Size : Int) (p0_g_Rows : List Int) (l200 : List Int) (x201 : Int) : Option (((List Int) × Int) ⊕ (((List Int)))) :=
  (if (decide ((l200.length : Int) < p0_g_Size)) = true then (loopN (σ := (Int × Int)) (β := Int) (fun s => S_spec_LexOrder_l5 F p0_g_Size p0_g_Rows l200 x201 s.1 s.2) F ((-1), 0)).bind (fun b => S_spec_LexOrder_j4 F l200 x201 b) else some (Sum.inr l200))

def S_spec_LexOrder_j1 (F : Nat) (p0_g_Size : Int) (p0_g_Rows : List Int) (p1_start : Int) (p14 : Bool) : Option ((List (Int)) × Bool) :=
  (if p14 = true then some (([] : List (Int)), false) else ((nnO p1_start).bind fun _ => (loopN (σ := ((List Int) × Int)) (β := (((List Int)))) (fun s => S_spec_LexOrder_l3 F p0_g_Size p0_g_Rows s.1 s.2) F (([p1_start] : List (Int)), (shL 1 p1_start))).bind (fun b => S_spec_LexOrder_j2 F b)))

def S_spec_LexOrder (F : Nat) (p0_g_Size : Int) (p0_g_Rows : List Int) (p1_start : Int) : Option ((List (Int)) × Bool) :=
  ((S_spec_IsGraph F p0_g_Size p0_g_Rows).bind fun r372 => (if (!r372) = true then S_spec_LexOrder_j1 F p0_g_Size p0_g_Rows p1_start true else (if (decide (p1_start < 0)) = true then S_spec_LexOrder_j1 F p0_g_Size p0_g_Rows p1_start true else S_spec_LexOrder_j1 F p0_g_Size p0_g_Rows p1_start (decide (p0_g_Size ≤ p1_start)))))

def S_impl_SetOf_j1 (F : Nat) (x85 : Int) : Option (Int × Bool) :=
  some (x85, true)

def S_impl_SetOf_j3 (F : Nat) (x88 : Int) (x89 : Int) (x152 : Int) (p164 : Bool) : Option ((Int × Int) ⊕ (Int ⊕ (Int × Bool))) :=
  (if p164 = true then some (Sum.inr (Sum.inr (0, false))) else ((nnO x152).bind fun _ => some (Sum.inl ((bOr x88 (shL 1 x152)), (IntKind.i64.wrap (x89 + 1))))))

def S_impl_SetOf_l2 (F : Nat) (p0_l : List Int) (x88 : Int) (x89 : Int) : Option ((Int × Int) ⊕ (Int ⊕ (Int × Bool))) :=
  (if (decide (x89 < (p0_l.length : Int))) = true then ((idxL p0_l x89).bind fun x152 => ((S_impl_within F x152 0 6).bind fun r166 => (if (!r166) = true then S_impl_SetOf_j3 F x88 x89 x152 true else ((S_impl_has F x88 x152).bind fun r167 => S_impl_SetOf_j3 F x88 x89 x152 r167)))) else some (Sum.inr (Sum.inl x88)))

def S_impl_SetOf (F : Nat) (p0_l : List Int) : Option (Int × Bool) :=
  (loopN (σ := (Int × Int)) (β := (Int ⊕ (Int × Bool))) (fun s => S_impl_SetOf_l2 F p0_l s.1 s.2) F (0, 0)).bind (fun b => (match b with | .inl o => S_impl_SetOf_j1 F o | .inr o => some o))

def S_impl_ListOf_j1 (F : Nat) (l54 : List Int) : Option ((List (Int))) :=
  some l54

def S_impl_ListOf_j3 (F : Nat) (x59 : Int) (l87 : List Int) : Option (((List Int) × Int) ⊕ (((List Int)))) :=
  some (Sum.inl (l87, (IntKind.i64.wrap (x59 + 1))))

def S_impl_ListOf_l2 (F : Nat) (p0_set : Int) (l58 : List Int) (x59 : Int) : Option (((List Int) × Int) ⊕ (((List Int)))) :=
  (if (decide (x59 < 7)) = true then ((S_impl_has F p0_set x59).bind fun r91 => (if r91 = true then ((catO l58.length ([x59] : List (Int)).length).bind fun _ => S_impl_ListOf_j3 F x59 (l58 ++ ([x59] : List (Int)))) else S_impl_ListOf_j3 F x59 l58)) else some (Sum.inr l58))

def S_impl_ListOf (F : Nat) (p0_set : Int) : Option ((List (Int))) :=
  ((S_impl_within F p0_set 0 127).bind fun r12 => (if (!r12) = true then some ([] : List (Int)) else (loopN (σ := ((List Int) × Int)) (β := (((List Int)))) (fun s => S_impl_ListOf_l2 F p0_set s.1 s.2) F (([] : List (Int)), 0)).bind (fun b => S_impl_ListOf_j1 F b)))

def S_impl_CountSet (F : Nat) (p0_set : Int) : Option (Int) :=
  ((S_impl_ListOf F p0_set).bind fun r5 => some (r5.length : Int))

def S_impl_CardinalityOrder_c1 (F : Nat) (p0_v : Int) (p1_order : List Int) (q0_Size : Int) (q0_Rows : List Int) : Option (Int) :=
  ((S_impl_SetOf F p1_order).bind fun r4 => ((idxL q0_Rows p0_v).bind fun x8 => ((S_impl_CountSet F (bAnd x8 r4.1)).bind fun r9 => some r9)))

def S_impl_greedyOrder__CardinalityOrderc1_j1 (F : Nat) (l224 : List Int) : Option ((List (Int)) × Bool) :=
  some (l224, true)

def S_impl_greedyOrder__CardinalityOrderc1_j3 (F : Nat) (l227 : List Int) (x379 : Int) : Option (((List Int)) ⊕ (((List Int)))) :=
  ((catO l227.length ([x379] : List (Int)).length).bind fun _ => some (Sum.inl (l227 ++ ([x379] : List (Int)))))

def S_impl_greedyOrder__CardinalityOrderc1_j5 (F : Nat) (x385 : Int) (x418 : Int) (x419 : Int) : Option ((Int × Int × Int) ⊕ (Int)) :=
  some (Sum.inl (x418, x419, (IntKind.i64.wrap (x385 + 1))))

def S_impl_greedyOrder__CardinalityOrderc1_j6 (F : Nat) (x383 : Int) (x384 : Int) (x385 : Int) (r423 : Int) (p426 : Bool) : Option ((Int × Int × Int) ⊕ (Int)) :=
  (if p426 = true then S_impl_greedyOrder__CardinalityOrderc1_j5 F x385 x385 r423 else S_impl_greedyOrder__CardinalityOrderc1_j5 F x385 x383 x384)

def S_impl_greedyOrder__CardinalityOrderc1_l4 (F : Nat) (p0_g_Size : Int) (p2_number_c0_Size : Int) (p2_number_c0_Rows : List Int) (l227 : List Int) (x383 : Int) (x384 : Int) (x385 : Int) : Option ((Int × Int × Int) ⊕ (Int)) :=
  (if (decide (x385 < p0_g_Size)) = true then ((S_impl_CardinalityOrder_c1 F x385 l227 p2_number_c0_Size p2_number_c0_Rows).bind fun r423 => ((S_slices_Contains_int F l227 x385).bind fun r427 => (if (!r427) = true then S_impl_greedyOrder__CardinalityOrderc1_j6 F x383 x384 x385 r423 (decide (x384 < r423)) else S_impl_greedyOrder__CardinalityOrderc1_j6 F x383 x384 x385 r423 false))) else some (Sum.inr x383))

def S_impl_greedyOrder__CardinalityOrderc1_l2 (F : Nat) (p0_g_Size : Int) (p2_number_c0_Size : Int) (p2_number_c0_Rows : List Int) (l227 : List Int) : Option (((List Int)) ⊕ (((List Int)))) :=
  (if (decide ((l227.length : Int) < p0_g_Size)) = true then (loopN (σ := (Int × Int × Int)) (β := Int) (fun s => S_impl_greedyOrder__CardinalityOrderc1_l4 F p0_g_Size p2_number_c0_Size p2_number_c0_Rows l227 s.1 s.2.1 s.2.2) F ((-1), (-1), 0)).bind (fun b => S_impl_greedyOrder__CardinalityOrderc1_j3 F l227 b) else some (Sum.inr l227))

def S_impl_greedyOrder__CardinalityOrderc1 (F : Nat) (p0_g_Size : Int) (p0_g_Rows : List Int) (p1_start : Int) (p2_number_c0_Size : Int) (p2_number_c0_Rows : List Int) : Option ((List (Int)) × Bool) :=
  ((S_impl_isVertex F p0_g_Size p0_g_Rows ([p1_start] : List (Int))).bind fun r15 => (if (!r15) = true then some (([] : List (Int)), false) else (loopN (σ := ((List Int))) (β := (((List Int)))) (fun s => S_impl_greedyOrder__CardinalityOrderc1_l2 F p0_g_Size p2_number_c0_Size p2_number_c0_Rows s) F ([p1_start] : List (Int))).bind (fun b => S_impl_greedyOrder__CardinalityOrderc1_j1 F b)))

def S_impl_CardinalityOrder (F : Nat) (p0_g_Size : Int) (p0_g_Rows : List Int) (p1_start : Int) : Option ((List (Int)) × Bool) :=
  ((S_impl_greedyOrder__CardinalityOrderc1 F p0_g_Size p0_g_Rows p1_start p0_g_Size p0_g_Rows).bind fun r7 => some (r7.1, r7.2))

def S_spec_l3Fine (F : Nat) (p0_set : Int) : Option (Bool) :=
  ((S_spec_l1In F p0_set 0 127).bind fun r4 => some r4)

def S_spec_ListOf_j1 (F : Nat) (l47 : List Int) : Option ((List (Int))) :=
  some l47

def S_spec_ListOf_j4 (F : Nat) (x52 : Int) (l84 : List Int) : Option (((List Int) × Int) ⊕ (((List Int)))) :=
  some (Sum.inl (l84, (IntKind.i64.wrap (x52 + 1))))

def S_spec_ListOf_j3 (F : Nat) (p0_set : Int) (l51 : List Int) (x52 : Int) (p78 : Bool) : Option (((List Int) × Int) ⊕ (((List Int)))) :=
  (if p78 = true then ((nnO x52).bind fun _ => (if ((bAnd (shR p0_set x52) 1) == 1) = true then ((catO l51.length ([x52] : List (Int)).length).bind fun _ => S_spec_ListOf_j4 F x52 (l51 ++ ([x52] : List (Int)))) else S_spec_ListOf_j4 F x52 l51)) else some (Sum.inr l51))

def S_spec_ListOf_l2 (F : Nat) (p0_set : Int) (l51 : List Int) (x52 : Int) : Option (((List Int) × Int) ⊕ (((List Int)))) :=
  (if (decide (x52 < 7)) = true then ((S_spec_l3Fine F p0_set).bind fun r88 => S_spec_ListOf_j3 F p0_set l51 x52 r88) else S_spec_ListOf_j3 F p0_set l51 x52 false)

def S_spec_ListOf (F : Nat) (p0_set : Int) : Option ((List (Int))) :=
  (loopN (σ := ((List Int) × Int)) (β := (((List Int)))) (fun s => S_spec_ListOf_l2 F p0_set s.1 s.2) F (([] : List (Int)), 0)).bind (fun b => S_spec_ListOf_j1 F b)

def S_spec_CountSet (F : Nat) (p0_set : Int) : Option (Int) :=
  ((S_spec_ListOf F p0_set).bind fun r5 => some (r5.length : Int))

def S_spec_CardinalityOrder_j2 (F : Nat) (l243 : List Int) : Option ((List (Int)) × Bool) :=
  some (l243, true)

def S_spec_CardinalityOrder_j4 (F : Nat) (l246 : List Int) (x247 : Int) (x410 : Int) : Option (((List Int) × Int) ⊕ (((List Int)))) :=
  ((catO l246.length ([x410] : List (Int)).length).bind fun _ => ((nnO x410).bind fun _ => some (Sum.inl ((l246 ++ ([x410] : List (Int))), (IntKind.i64.wrap (x247 + (shL 1 x410)))))))

def S_spec_CardinalityOrder_j6 (F : Nat) (x419 : Int) (x454 : Int) (x455 : Int) : Option ((Int × Int × Int) ⊕ (Int)) :=
  some (Sum.inl (x454, x455, (IntKind.i64.wrap (x419 + 1))))

def S_spec_CardinalityOrder_j7 (F : Nat) (x417 : Int) (x418 : Int) (x419 : Int) (r460 : Int) (p462 : Bool) : Option ((Int × Int × Int) ⊕ (Int)) :=
  (if p462 = true then S_spec_CardinalityOrder_j6 F x419 x419 r460 else S_spec_CardinalityOrder_j6 F x419 x417 x418)

def S_spec_CardinalityOrder_l5 (F : Nat) (p0_g_Size : Int) (p0_g_Rows : List Int) (x247 : Int) (x417 : Int) (x418 : Int) (x419 : Int) : Option ((Int × Int × Int) ⊕ (Int)) :=
  (if (decide (x419 < p0_g_Size)) = true then ((idxL p0_g_Rows x419).bind fun x459 => ((S_spec_CountSet F (bAnd x459 x247)).bind fun r460 => ((nnO x419).bind fun _ => (if ((bAnd (shR x247 x419) 1) == 0) = true then S_spec_CardinalityOrder_j7 F x417 x418 x419 r460 (decide (x418 < r460)) else S_spec_CardinalityOrder_j7 F x417 x418 x419 r460 false)))) else some (Sum.inr x417))

def S_spec_CardinalityOrder_l3 (F : Nat) (p0_g_Size : Int) (p0_g_Rows : List Int) (l246 : List Int) (x247 : Int) : Option (((List Int) × Int) ⊕ (((List Int)))) :=
  (if (decide ((l246.length : Int) < p0_g_Size)) = true then (loopN (σ := (Int × Int × Int)) (β := Int) (fun s => S_spec_CardinalityOrder_l5 F p0_g_Size p0_g_Rows x247 s.1 s.2.1 s.2.2) F ((-1), (-1), 0)).bind (fun b => S_spec_CardinalityOrder_j4 F l246 x247 b) else some (Sum.inr l246))

def S_spec_CardinalityOrder_j1 (F : Nat) (p0_g_Size : Int) (p0_g_Rows : List Int) (p1_start : Int) (p14 : Bool) : Option ((List (Int)) × Bool) :=
  (if p14 = true then some (([] : List (Int)), false) else ((nnO p1_start).bind fun _ => (loopN (σ := ((List Int) × Int)) (β := (((List Int)))) (fun s => S_spec_CardinalityOrder_l3 F p0_g_Size p0_g_Rows s.1 s.2) F (([p1_start] : List (Int)), (shL 1 p1_start))).bind (fun b => S_spec_CardinalityOrder_j2 F b)))

def S_spec_CardinalityOrder (F : Nat) (p0_g_Size : Int) (p0_g_Rows : List Int) (p1_start : Int) : Option ((List (Int)) × Bool) :=
  ((S_spec_IsGraph F p0_g_Size p0_g_Rows).bind fun r464 => (if (!r464) = true then S_spec_CardinalityOrder_j1 F p0_g_Size p0_g_Rows p1_start true else (if (decide (p1_start < 0)) = true then S_spec_CardinalityOrder_j1 F p0_g_Size p0_g_Rows p1_start true else S_spec_CardinalityOrder_j1 F p0_g_Size p0_g_Rows p1_start (decide (p0_g_Size ≤ p1_start)))))

def S_impl_BreadthOrder_j1 (F : Nat) (l254 : List Int) : Option ((List (Int)) × Bool) :=
  some (l254, true)

def S_impl_BreadthOrder_j3 (F : Nat) (x259 : Int) (l433 : List Int) : Option (((List Int) × Int) ⊕ (((List Int)))) :=
  some (Sum.inl (l433, (IntKind.i64.wrap (x259 + 1))))

def S_impl_BreadthOrder_j5 (F : Nat) (x445 : Int) (l479 : List Int) : Option (((List Int) × Int) ⊕ (((List Int)))) :=
  some (Sum.inl (l479, (IntKind.i64.wrap (x445 + 1))))

def S_impl_BreadthOrder_l4 (F : Nat) (r441 : (List (Int))) (l444 : List Int) (x445 : Int) : Option (((List Int) × Int) ⊕ (((List Int)))) :=
  (if (decide (x445 < (r441.length : Int))) = true then ((idxL r441 x445).bind fun x482 => ((S_slices_Contains_int F l444 x482).bind fun r485 => (if (!r485) = true then ((catO l444.length ([x482] : List (Int)).length).bind fun _ => S_impl_BreadthOrder_j5 F x445 (l444 ++ ([x482] : List (Int)))) else S_impl_BreadthOrder_j5 F x445 l444))) else some (Sum.inr l444))

def S_impl_BreadthOrder_l2 (F : Nat) (p0_g_Rows : List Int) (l258 : List Int) (x259 : Int) : Option (((List Int) × Int) ⊕ (((List Int)))) :=
  (if (decide (x259 < (l258.length : Int))) = true then ((idxL l258 x259).bind fun x439 => ((idxL p0_g_Rows x439).bind fun x440 => ((S_impl_ListOf F x440).bind fun r441 => (loopN (σ := ((List Int) × Int)) (β := (((List Int)))) (fun s => S_impl_BreadthOrder_l4 F r441 s.1 s.2) F (l258, 0)).bind (fun b => S_impl_BreadthOrder_j3 F x259 b)))) else some (Sum.inr l258))

def S_impl_BreadthOrder (F : Nat) (p0_g_Size : Int) (p0_g_Rows : List Int) (p1_start : Int) : Option ((List (Int)) × Bool) :=
  ((S_impl_isVertex F p0_g_Size p0_g_Rows ([p1_start] : List (Int))).bind fun r15 => (if (!r15) = true then some (([] : List (Int)), false) else (loopN (σ := ((List Int) × Int)) (β := (((List Int)))) (fun s => S_impl_BreadthOrder_l2 F p0_g_Rows s.1 s.2) F (([p1_start] : List (Int)), 0)).bind (fun b => S_impl_BreadthOrder_j1 F b)))

def S_spec_BreadthOrder_j2 (F : Nat) (l295 : List Int) : Option ((List (Int)) × Bool) :=
  some (l295, true)

def S_spec_BreadthOrder_j4 (F : Nat) (x301 : Int) (l503 : List Int) (x504 : Int) : Option (((List Int) × Int × Int) ⊕ (((List Int)))) :=
  some (Sum.inl (l503, x504, (IntKind.i64.wrap (x301 + 1))))

def S_spec_BreadthOrder_j6 (F : Nat) (x509 : Int) (l555 : List Int) (x556 : Int) : Option (((List Int) × Int × Int) ⊕ (((List Int) × Int))) :=
  some (Sum.inl (l555, x556, (IntKind.i64.wrap (x509 + 1))))

def S_spec_BreadthOrder_j7 (F : Nat) (l507 : List Int) (x508 : Int) (x509 : Int) (p560 : Bool) : Option (((List Int) × Int × Int) ⊕ (((List Int) × Int))) :=
  (if p560 = true then ((catO l507.length ([x509] : List (Int)).length).bind fun _ => ((nnO x509).bind fun _ => S_spec_BreadthOrder_j6 F x509 (l507 ++ ([x509] : List (Int))) (IntKind.i64.wrap (x508 + (shL 1 x509))))) else S_spec_BreadthOrder_j6 F x509 l507 x508)

def S_spec_BreadthOrder_l5 (F : Nat) (p0_g_Size : Int) (p0_g_Rows : List Int) (x301 : Int) (l507 : List Int) (x508 : Int) (x509 : Int) : Option (((List Int) × Int × Int) ⊕ (((List Int) × Int))) :=
  (if (decide (x509 < p0_g_Size)) = true then ((nnO x509).bind fun _ => (if ((bAnd (shR x508 x509) 1) == 0) = true then ((idxL l507 x301).bind fun x566 => ((S_spec_l2Edge F p0_g_Size p0_g_Rows x566 x509).bind fun r567 => S_spec_BreadthOrder_j7 F l507 x508 x509 r567)) else S_spec_BreadthOrder_j7 F l507 x508 x509 false)) else some (Sum.inr (l507, x508)))

def S_spec_BreadthOrder_l3 (F : Nat) (p0_g_Size : Int) (p0_g_Rows : List Int) (l299 : List Int) (x300 : Int) (x301 : Int) : Option (((List Int) × Int × Int) ⊕ (((List Int)))) :=
  (if (decide (x301 < (l299.length : Int))) = true then (loopN (σ := ((List Int) × Int × Int)) (β := (((List Int) × Int))) (fun s => S_spec_BreadthOrder_l5 F p0_g_Size p0_g_Rows x301 s.1 s.2.1 s.2.2) F (l299, x300, 0)).bind (fun b => S_spec_BreadthOrder_j4 F x301 b.1 b.2) else some (Sum.inr l299))

def S_spec_BreadthOrder_j1 (F : Nat) (p0_g_Size : Int) (p0_g_Rows : List Int) (p1_start : Int) (p14 : Bool) : Option ((List (Int)) × Bool) :=
  (if p14 = true then some (([] : List (Int)), false) else ((nnO p1_start).bind fun _ => (loopN (σ := ((List Int) × Int × Int)) (β := (((List Int)))) (fun s => S_spec_BreadthOrder_l3 F p0_g_Size p0_g_Rows s.1 s.2.1 s.2.2) F (([p1_start] : List (Int)), (shL 1 p1_start), 0)).bind (fun b => S_spec_BreadthOrder_j2 F b)))

def S_spec_BreadthOrder (F : Nat) (p0_g_Size : Int) (p0_g_Rows : List Int) (p1_start : Int) : Option ((List (Int)) × Bool) :=
  ((S_spec_IsGraph F p0_g_Size p0_g_Rows).bind fun r568 => (if (!r568) = true then S_spec_BreadthOrder_j1 F p0_g_Size p0_g_Rows p1_start true else (if (decide (p1_start < 0)) = true then S_spec_BreadthOrder_j1 F p0_g_Size p0_g_Rows p1_start true else S_spec_BreadthOrder_j1 F p0_g_Size p0_g_Rows p1_start (decide (p0_g_Size ≤ p1_start)))))

def S_impl_areVertices_j1 (F : Nat) (p0_g_Size : Int) (p0_g_Rows : List Int) : Option (Bool) :=
  ((S_impl_IsGraph F p0_g_Size p0_g_Rows).bind fun r63 => some r63)

def S_impl_areVertices_j3 (F : Nat) (x65 : Int) (p115 : Bool) : Option ((Int) ⊕ (Unit ⊕ Bool)) :=
  (if p115 = true then some (Sum.inr (Sum.inr false)) else some (Sum.inl (IntKind.i64.wrap (x65 + 1))))

def S_impl_areVertices_l2 (F : Nat) (p0_g_Size : Int) (p1_l : List Int) (x65 : Int) : Option ((Int) ⊕ (Unit ⊕ Bool)) :=
  (if (decide (x65 < (p1_l.length : Int))) = true then ((idxL p1_l x65).bind fun x110 => ((S_impl_within F x110 0 (IntKind.i64.wrap (p0_g_Size - 1))).bind fun r117 => (if (!r117) = true then S_impl_areVertices_j3 F x65 true else ((slO p1_l.length x65).bind fun _ => ((S_slices_Contains_int F (p1_l.take (x65.toNat)) x110).bind fun r119 => S_impl_areVertices_j3 F x65 r119))))) else some (Sum.inr (Sum.inl ())))

def S_impl_areVertices (F : Nat) (p0_g_Size : Int) (p0_g_Rows : List Int) (p1_l : List Int) : Option (Bool) :=
  (loopN (σ := Int) (β := (Unit ⊕ Bool)) (fun s => S_impl_areVertices_l2 F p0_g_Size p1_l s) F 0).bind (fun b => (match b with | .inl o => S_impl_areVertices_j1 F p0_g_Size p0_g_Rows | .inr o => some o))

def S_impl_IsOrder_j1 (F : Nat) (p6 : Bool) : Option (Bool) :=
  some p6

def S_impl_IsOrder (F : Nat) (p0_g_Size : Int) (p0_g_Rows : List Int) (p1_l : List Int) : Option (Bool) :=
  ((S_impl_areVertices F p0_g_Size p0_g_Rows p1_l).bind fun r7 => (if r7 = true then S_impl_IsOrder_j1 F ((p1_l.length : Int) == p0_g_Size) else S_impl_IsOrder_j1 F false))

def S_impl_IsLexOrder_j1 (F : Nat) : Option (Bool) :=
  some true

def S_impl_IsLexOrder_j3 (F : Nat) (x306 : Int) : Option ((Int) ⊕ (Unit ⊕ Bool)) :=
  some (Sum.inl (IntKind.i64.wrap (x306 + 1)))

def S_impl_IsLexOrder_l4 (F : Nat) (p0_g_Size : Int) (p0_g_Rows : List Int) (p1_l : List Int) (x306 : Int) (x528 : Int) : Option ((Int) ⊕ (Unit ⊕ Bool)) :=
  (if (decide (x528 < ((p1_l.drop ((IntKind.i64.wrap (x306 + 1)).toNat)).length : Int))) = true then ((idxL (p1_l.drop ((IntKind.i64.wrap (x306 + 1)).toNat)) x528).bind fun x582 => ((slO p1_l.length x306).bind fun _ => ((idxL p1_l x306).bind fun x590 => ((slO p1_l.length x306).bind fun _ => ((S_impl_label F p0_g_Size p0_g_Rows x582 (p1_l.take (x306.toNat))).bind fun r592 => ((S_impl_label F p0_g_Size p0_g_Rows x590 (p1_l.take (x306.toNat))).bind fun r593 => (if (decide (r593 < r592)) = true then some (Sum.inr (Sum.inr false)) else some (Sum.inl (IntKind.i64.wrap (x528 + 1)))))))))) else some (Sum.inr (Sum.inl ())))

def S_impl_IsLexOrder_l2 (F : Nat) (p0_g_Size : Int) (p0_g_Rows : List Int) (p1_l : List Int) (x306 : Int) : Option ((Int) ⊕ (Unit ⊕ Bool)) :=
  (if (decide (x306 < (p1_l.length : Int))) = true then ((slO p1_l.length (IntKind.i64.wrap (x306 + 1))).bind fun _ => (loopN (σ := Int) (β := (Unit ⊕ Bool)) (fun s => S_impl_IsLexOrder_l4 F p0_g_Size p0_g_Rows p1_l x306 s) F 0).bind (fun b => (match b with | .inl o => S_impl_IsLexOrder_j3 F x306 | .inr o => some (Sum.inr (Sum.inr o))))) else some (Sum.inr (Sum.inl ())))

def S_impl_IsLexOrder (F : Nat) (p0_g_Size : Int) (p0_g_Rows : List Int) (p1_l : List Int) : Option (Bool) :=
  ((S_impl_IsOrder F p0_g_Size p0_g_Rows p1_l).bind fun r11 => (if (!r11) = true then some false else (loopN (σ := Int) (β := (Unit ⊕ Bool)) (fun s => S_impl_IsLexOrder_l2 F p0_g_Size p0_g_Rows p1_l s) F 1).bind (fun b => (match b with | .inl o => S_impl_IsLexOrder_j1 F | .inr o => some o))))

def S_impl_neighbors_j1 (F : Nat) (x35 : Int) : Option (Int) :=
  some x35

def S_impl_neighbors_l2 (F : Nat) (p0_g_Rows : List Int) (r40 : (List (Int))) (x42 : Int) (x43 : Int) : Option ((Int × Int) ⊕ (Int)) :=
  (if (decide (x43 < (r40.length : Int))) = true then ((idxL r40 x43).bind fun x64 => ((idxL p0_g_Rows x64).bind fun x65 => some (Sum.inl ((bOr x42 x65), (IntKind.i64.wrap (x43 + 1)))))) else some (Sum.inr x42))

def S_impl_neighbors (F : Nat) (p0_g_Size : Int) (p0_g_Rows : List Int) (p1_set : Int) : Option (Int) :=
  ((S_impl_ListOf F p1_set).bind fun r40 => (loopN (σ := (Int × Int)) (β := Int) (fun s => S_impl_neighbors_l2 F p0_g_Rows r40 s.1 s.2) F (0, 0)).bind (fun b => S_impl_neighbors_j1 F b))

def S_impl_DistanceOf_j1 (F : Nat) (x53 : Int) : Option (Int) :=
  some x53

def S_impl_DistanceOf_l2 (F : Nat) (p0_g_Size : Int) (p0_g_Rows : List Int) (p2_w : Int) (x55 : Int) (x56 : Int) : Option ((Int × Int) ⊕ (Int ⊕ Int)) :=
  ((S_impl_has F x55 p2_w).bind fun r79 => (if (!r79) = true then ((S_impl_neighbors F p0_g_Size p0_g_Rows x55).bind fun r82 => (if ((bOr x55 r82) == x55) = true then some (Sum.inr (Sum.inr (-1))) else some (Sum.inl ((bOr x55 r82), (IntKind.i64.wrap (x56 + 1)))))) else some (Sum.inr (Sum.inl x56))))

def S_impl_DistanceOf (F : Nat) (p0_g_Size : Int) (p0_g_Rows : List Int) (p1_v : Int) (p2_w : Int) : Option (Int) :=
  ((S_impl_isVertex F p0_g_Size p0_g_Rows ([p1_v, p2_w] : List (Int))).bind fun r15 => (if (!r15) = true then some (-1) else ((nnO p1_v).bind fun _ => (loopN (σ := (Int × Int)) (β := (Int ⊕ Int)) (fun s => S_impl_DistanceOf_l2 F p0_g_Size p0_g_Rows p2_w s.1 s.2) F ((shL 1 p1_v), 0)).bind (fun b => (match b with | .inl o => S_impl_DistanceOf_j1 F o | .inr o => some o)))))

def S_impl_partOf_l1 (F : Nat) (p0_g_Size : Int) (p0_g_Rows : List Int) (p1_set : Int) (x4 : Int) : Option ((Int) ⊕ (Int)) :=
  ((S_impl_neighbors F p0_g_Size p0_g_Rows x4).bind fun r15 => (if ((bAnd (bOr x4 r15) p1_set) == x4) = true then some (Sum.inr x4) else some (Sum.inl (bAnd (bOr x4 r15) p1_set))))

def S_impl_partOf (F : Nat) (p0_g_Size : Int) (p0_g_Rows : List Int) (p1_set : Int) (p2_from : Int) : Option (Int) :=
  (loopN (σ := Int) (β := Int) (fun s => S_impl_partOf_l1 F p0_g_Size p0_g_Rows p1_set s) F p2_from).bind (fun b => some b)

def S_impl_parts_j1 (F : Nat) (l34 : List Int) : Option ((List (Int))) :=
  some l34

def S_impl_parts_l2 (F : Nat) (p0_g_Size : Int) (p0_g_Rows : List Int) (x36 : Int) (l38 : List Int) : Option ((Int × (List Int)) ⊕ (((List Int)))) :=
  (if (x36 != 0) = true then ((S_impl_partOf F p0_g_Size p0_g_Rows x36 (bAnd x36 (IntKind.i64.wrap (0 - x36)))).bind fun r55 => ((catO l38.length ([r55] : List (Int)).length).bind fun _ => some (Sum.inl ((bAndNot x36 r55), (l38 ++ ([r55] : List (Int))))))) else some (Sum.inr l38))

def S_impl_parts (F : Nat) (p0_g_Size : Int) (p0_g_Rows : List Int) (p1_set : Int) : Option ((List (Int))) :=
  (loopN (σ := (Int × (List Int))) (β := (((List Int)))) (fun s => S_impl_parts_l2 F p0_g_Size p0_g_Rows s.1 s.2) F (p1_set, ([] : List (Int)))).bind (fun b => S_impl_parts_j1 F b)

def S_impl_all (F : Nat) (p0_g_Size : Int) (p0_g_Rows : List Int) : Option (Int) :=
  ((nnO p0_g_Size).bind fun _ => some (IntKind.i64.wrap ((shL 1 p0_g_Size) - 1)))

def S_impl_IsConnected_j1 (F : Nat) (p9 : Bool) : Option (Bool) :=
  some p9

def S_impl_IsConnected (F : Nat) (p0_g_Size : Int) (p0_g_Rows : List Int) : Option (Bool) :=
  ((S_impl_IsGraph F p0_g_Size p0_g_Rows).bind fun r10 => (if r10 = true then ((S_impl_all F p0_g_Size p0_g_Rows).bind fun r11 => ((S_impl_parts F p0_g_Size p0_g_Rows r11).bind fun r12 => S_impl_IsConnected_j1 F ((r12.length : Int) == 1))) else S_impl_IsConnected_j1 F false))

def S_spec_l2Two (F : Nat) (p0_code : List Int) : Option (Int × (List (Int)) × Int × Int) :=
  ((S_spec_l1New F p0_code).bind fun r7 => ((S_spec_l2Any F p0_code r7.1 r7.2).bind fun r13 => ((S_spec_l1Below F p0_code r13.2.2.1 r13.2.2.2 7).bind fun r20 => ((S_spec_l1Below F p0_code r20.2.1 r20.2.2 2).bind fun r21 => ((S_spec_l1Below F p0_code r21.2.1 r21.2.2 2).bind fun r22 => ((S_spec_l1Below F p0_code r22.2.1 r22.2.2 6).bind fun r25 => some (r13.1, r13.2.1, (IntKind.i64.wrap (r20.1 - (IntKind.i64.wrap (r21.1 * r22.1)))), r25.1)))))))

def S_spec_DrawDistanceOf (F : Nat) (p0_code : List Int) : Option (Int × (List (Int)) × Int × Int) :=
  ((S_spec_l2Two F p0_code).bind fun r8 => some (r8.1, r8.2.1, r8.2.2.1, r8.2.2.2))

def S_spec_IsSet_j1 (F : Nat) (p6 : Bool) : Option (Bool) :=
  some p6

def S_spec_IsSet (F : Nat) (p0_g_Size : Int) (p0_g_Rows : List Int) (p1_set : Int) : Option (Bool) :=
  ((S_spec_IsGraph F p0_g_Size p0_g_Rows).bind fun r7 => (if r7 = true then (if (decide ((0 : Int) ≤ p1_set)) = true then ((nnO p0_g_Size).bind fun _ => S_spec_IsSet_j1 F (decide (p1_set < (shL 1 p0_g_Size)))) else S_spec_IsSet_j1 F false) else S_spec_IsSet_j1 F false))

def S_spec_AroundSet_j1 (F : Nat) (x36 : Int) : Option (Int) :=
  some x36

def S_spec_AroundSet_j3 (F : Nat) (x40 : Int) (x56 : Int) : Option ((Int × Int) ⊕ (Int)) :=
  some (Sum.inl (x56, (IntKind.i64.wrap (x40 + 1))))

def S_spec_AroundSet_l2 (F : Nat) (p0_g_Size : Int) (p0_g_Rows : List Int) (p1_set : Int) (x39 : Int) (x40 : Int) : Option ((Int × Int) ⊕ (Int)) :=
  (if (decide (x40 < p0_g_Size)) = true then ((nnO x40).bind fun _ => (if ((bAnd (shR p1_set x40) 1) == 1) = true then ((idxL p0_g_Rows x40).bind fun x58 => S_spec_AroundSet_j3 F x40 (bOr x39 x58)) else S_spec_AroundSet_j3 F x40 x39)) else some (Sum.inr x39))

def S_spec_AroundSet (F : Nat) (p0_g_Size : Int) (p0_g_Rows : List Int) (p1_set : Int) : Option (Int) :=
  ((S_spec_IsSet F p0_g_Size p0_g_Rows p1_set).bind fun r11 => (if (!r11) = true then some 0 else (loopN (σ := (Int × Int)) (β := Int) (fun s => S_spec_AroundSet_l2 F p0_g_Size p0_g_Rows p1_set s.1 s.2) F (p1_set, 0)).bind (fun b => S_spec_AroundSet_j1 F b)))

def S_spec_DistanceOf_j2 (F : Nat) : Option (Int) :=
  some (-1)

def S_spec_DistanceOf_l3 (F : Nat) (p0_g_Size : Int) (p0_g_Rows : List Int) (p2_w : Int) (x53 : Int) (x54 : Int) : Option ((Int × Int) ⊕ (Unit ⊕ Int)) :=
  (if (decide (x54 < p0_g_Size)) = true then ((nnO p2_w).bind fun _ => (if ((bAnd (shR x53 p2_w) 1) == 1) = true then some (Sum.inr (Sum.inr x54)) else ((S_spec_AroundSet F p0_g_Size p0_g_Rows x53).bind fun r86 => some (Sum.inl (r86, (IntKind.i64.wrap (x54 + 1))))))) else some (Sum.inr (Sum.inl ())))

def S_spec_DistanceOf_j1 (F : Nat) (p0_g_Size : Int) (p0_g_Rows : List Int) (p1_v : Int) (p2_w : Int) (p12 : Bool) : Option (Int) :=
  (if p12 = true then some (-1) else ((nnO p1_v).bind fun _ => (loopN (σ := (Int × Int)) (β := (Unit ⊕ Int)) (fun s => S_spec_DistanceOf_l3 F p0_g_Size p0_g_Rows p2_w s.1 s.2) F ((shL 1 p1_v), 0)).bind (fun b => (match b with | .inl o => S_spec_DistanceOf_j2 F | .inr o => some o))))

def S_spec_DistanceOf (F : Nat) (p0_g_Size : Int) (p0_g_Rows : List Int) (p1_v : Int) (p2_w : Int) : Option (Int) :=
  ((S_spec_IsGraph F p0_g_Size p0_g_Rows).bind fun r87 => (if (!r87) = true then S_spec_DistanceOf_j1 F p0_g_Size p0_g_Rows p1_v p2_w true else (if (decide (p1_v < 0)) = true then S_spec_DistanceOf_j1 F p0_g_Size p0_g_Rows p1_v p2_w true else (if (decide (p2_w < 0)) = true then S_spec_DistanceOf_j1 F p0_g_Size p0_g_Rows p1_v p2_w true else (if (decide (p0_g_Size ≤ p1_v)) = true then S_spec_DistanceOf_j1 F p0_g_Size p0_g_Rows p1_v p2_w true else S_spec_DistanceOf_j1 F p0_g_Size p0_g_Rows p1_v p2_w (decide (p0_g_Size ≤ p2_w)))))))

def S_impl_HasEdge_j1 (F : Nat) (p9 : Bool) : Option (Bool) :=
  some p9

def S_impl_HasEdge (F : Nat) (p0_g_Size : Int) (p0_g_Rows : List Int) (p1_v : Int) (p2_w : Int) : Option (Bool) :=
  ((S_impl_isVertex F p0_g_Size p0_g_Rows ([p1_v, p2_w] : List (Int))).bind fun r11 => (if r11 = true then ((idxL p0_g_Rows p1_v).bind fun x12 => ((S_impl_has F x12 p2_w).bind fun r13 => S_impl_HasEdge_j1 F r13)) else S_impl_HasEdge_j1 F false))

def S_spec_l4List_j2 (F : Nat) (l62 : List Int) (x63 : Int) (x64 : Int) : Option ((List (Int)) × Int × Int) :=
  some (l62, x63, x64)

def S_spec_l4List_j1 (F : Nat) (p0_c_b : List Int) (x49 : Int) (x50 : Int) (l52 : List Int) : Option ((List (Int)) × Int × Int) :=
  ((S_spec_l1Once F p0_c_b x49 x50 14).bind fun r68 => (if r68.1 = true then ((S_spec_l1PickInt F p0_c_b r68.2.1 r68.2.2 ([(-1), 7] : List (Int))).bind fun r70 => ((catO l52.length ([r70.1] : List (Int)).length).bind fun _ => S_spec_l4List_j2 F (l52 ++ ([r70.1] : List (Int))) r70.2.1 r70.2.2)) else S_spec_l4List_j2 F l52 r68.2.1 r68.2.2))

def S_spec_l4List_l3 (F : Nat) (p0_c_b : List Int) (p1_g_Size : Int) (x89 : Int) (x90 : Int) (l92 : List Int) (x93 : Int) : Option ((Int × Int × (List Int) × Int) ⊕ ((Int × Int × (List Int)))) :=
  (if (decide ((0 : Int) < x93)) = true then ((S_spec_l1Below F p0_c_b x89 x90 (if (if p1_g_Size < 7 then p1_g_Size else 7) > 1 then (if p1_g_Size < 7 then p1_g_Size else 7) else 1)).bind fun r111 => ((catO l92.length ([r111.1] : List (Int)).length).bind fun _ => some (Sum.inl (r111.2.1, r111.2.2, (l92 ++ ([r111.1] : List (Int))), (IntKind.i64.wrap (x93 - 1)))))) else some (Sum.inr (x89, x90, l92)))

def S_spec_l4List (F : Nat) (p0_c_b : List Int) (p0_c_i : Int) (p0_c_h : Int) (p1_g_Size : Int) (p1_g_Rows : List Int) : Option ((List (Int)) × Int × Int) :=
  ((S_spec_l1Below F p0_c_b p0_c_i p0_c_h 6).bind fun r75 => (loopN (σ := (Int × Int × (List Int) × Int)) (β := ((Int × Int × (List Int)))) (fun s => S_spec_l4List_l3 F p0_c_b p1_g_Size s.1 s.2.1 s.2.2.1 s.2.2.2) F (r75.2.1, r75.2.2, ([] : List (Int)), r75.1)).bind (fun b => S_spec_l4List_j1 F p0_c_b b.1 b.2.1 b.2.2))

def S_spec_DrawIsLexOrder_j1 (F : Nat) (p0_code : List Int) (r13 : Int × (List (Int)) × Int × Int) (r21 : (List (Int)) × Bool) (r28 : (List (Int)) × Bool) (x40 : Int) (x41 : Int) (p42 : Bool) : Option (Int × (List (Int)) × (List (Int))) :=
  (if p42 = true then some (r13.1, r13.2.1, r21.1) else (if r28.2 = true then some (r13.1, r13.2.1, r28.1) else ((S_spec_l4List F p0_code x40 x41 r13.1 r13.2.1).bind fun r52 => some (r13.1, r13.2.1, r52.1))))

def S_spec_DrawIsLexOrder (F : Nat) (p0_code : List Int) : Option (Int × (List (Int)) × (List (Int))) :=
  ((S_spec_l1New F p0_code).bind fun r7 => ((S_spec_l2Any F p0_code r7.1 r7.2).bind fun r13 => ((S_spec_l1Below F p0_code r13.2.2.1 r13.2.2.2 3).bind fun r20 => ((S_spec_LexOrder F r13.1 r13.2.1 r20.1).bind fun r21 => ((S_spec_l1Below F p0_code r20.2.1 r20.2.2 3).bind fun r27 => ((S_spec_CardinalityOrder F r13.1 r13.2.1 r27.1).bind fun r28 => (if r21.2 = true then ((S_spec_l1Once F p0_code r27.2.1 r27.2.2 2).bind fun r54 => S_spec_DrawIsLexOrder_j1 F p0_code r13 r21 r28 r54.2.1 r54.2.2 r54.1) else S_spec_DrawIsLexOrder_j1 F p0_code r13 r21 r28 r27.2.1 r27.2.2 false)))))))

def S_spec_DrawIsOrder_j1 (F : Nat) (p0_code : List Int) (r13 : Int × (List (Int)) × Int × Int) (r21 : (List (Int)) × Bool) (x33 : Int) (x34 : Int) (p35 : Bool) : Option (Int × (List (Int)) × (List (Int))) :=
  (if p35 = true then some (r13.1, r13.2.1, r21.1) else ((S_spec_l4List F p0_code x33 x34 r13.1 r13.2.1).bind fun r40 => some (r13.1, r13.2.1, r40.1)))

def S_spec_DrawIsOrder (F : Nat) (p0_code : List Int) : Option (Int × (List (Int)) × (List (Int))) :=
  ((S_spec_l1New F p0_code).bind fun r7 => ((S_spec_l2Any F p0_code r7.1 r7.2).bind fun r13 => ((S_spec_l1Below F p0_code r13.2.2.1 r13.2.2.2 3).bind fun r20 => ((S_spec_LexOrder F r13.1 r13.2.1 r20.1).bind fun r21 => (if r21.2 = true then ((S_spec_l1Once F p0_code r20.2.1 r20.2.2 3).bind fun r42 => S_spec_DrawIsOrder_j1 F p0_code r13 r21 r42.2.1 r42.2.2 (!r42.1)) else S_spec_DrawIsOrder_j1 F p0_code r13 r21 r20.2.1 r20.2.2 false)))))

def S_spec_DrawIsConnected (F : Nat) (p0_code : List Int) : Option (Int × (List (Int))) :=
  ((S_spec_l1New F p0_code).bind fun r9 => ((S_spec_l2Any F p0_code r9.1 r9.2).bind fun r11 => some (r11.1, r11.2.1)))

def S_spec_SetOf_j1 (F : Nat) (x95 : Int) : Option (Int × Bool) :=
  some (x95, true)

def S_spec_SetOf_j3 (F : Nat) (p0_l : List Int) (x98 : Int) (x99 : Int) (p182 : Bool) : Option ((Int × Int) ⊕ (Int ⊕ (Int × Bool))) :=
  (if p182 = true then some (Sum.inr (Sum.inr (0, false))) else ((idxL p0_l x99).bind fun x184 => ((nnO x184).bind fun _ => some (Sum.inl ((IntKind.i64.wrap (x98 + (shL 1 x184))), (IntKind.i64.wrap (x99 + 1)))))))

def S_spec_SetOf_l2 (F : Nat) (p0_l : List Int) (x98 : Int) (x99 : Int) : Option ((Int × Int) ⊕ (Int ⊕ (Int × Bool))) :=
  (if (decide (x99 < (p0_l.length : Int))) = true then ((idxL p0_l x99).bind fun x185 => ((S_spec_l1In F x185 0 6).bind fun r186 => (if (!r186) = true then S_spec_SetOf_j3 F p0_l x98 x99 true else ((idxL p0_l x99).bind fun x187 => ((nnO x187).bind fun _ => S_spec_SetOf_j3 F p0_l x98 x99 ((bAnd (shR x98 x187) 1) == 1)))))) else some (Sum.inr (Sum.inl x98)))

def S_spec_SetOf (F : Nat) (p0_l : List Int) : Option (Int × Bool) :=
  (loopN (σ := (Int × Int)) (β := (Int ⊕ (Int × Bool))) (fun s => S_spec_SetOf_l2 F p0_l s.1 s.2) F (0, 0)).bind (fun b => (match b with | .inl o => S_spec_SetOf_j1 F o | .inr o => some o))

def S_spec_l4Distinct_j1 (F : Nat) (p10 : Bool) : Option (Bool) :=
  some p10

def S_spec_l4Distinct (F : Nat) (p0_g_Size : Int) (p0_g_Rows : List Int) (p1_l : List Int) : Option (Bool) :=
  ((S_spec_SetOf F p1_l).bind fun r6 => ((S_spec_IsGraph F p0_g_Size p0_g_Rows).bind fun r11 => (if r11 = true then (if r6.2 = true then ((S_spec_IsSet F p0_g_Size p0_g_Rows r6.1).bind fun r12 => S_spec_l4Distinct_j1 F r12) else S_spec_l4Distinct_j1 F false) else S_spec_l4Distinct_j1 F false)))

def S_spec_IsOrder_j1 (F : Nat) (p6 : Bool) : Option (Bool) :=
  some p6

def S_spec_IsOrder (F : Nat) (p0_g_Size : Int) (p0_g_Rows : List Int) (p1_l : List Int) : Option (Bool) :=
  ((S_spec_l4Distinct F p0_g_Size p0_g_Rows p1_l).bind fun r7 => (if r7 = true then S_spec_IsOrder_j1 F ((p1_l.length : Int) == p0_g_Size) else S_spec_IsOrder_j1 F false))

def S_spec_IsLexOrder_j1 (F : Nat) : Option (Bool) :=
  some true

def S_spec_IsLexOrder_j3 (F : Nat) (x290 : Int) : Option ((Int) ⊕ (Unit ⊕ Bool)) :=
  some (Sum.inl (IntKind.i64.wrap (x290 + 1)))

def S_spec_IsLexOrder_l4 (F : Nat) (p0_g_Size : Int) (p0_g_Rows : List Int) (p1_l : List Int) (x290 : Int) (x498 : Int) : Option ((Int) ⊕ (Unit ⊕ Bool)) :=
  (if (decide (x498 < (p1_l.length : Int))) = true then ((slO p1_l.length x290).bind fun _ => ((idxL p1_l x498).bind fun x557 => ((slO p1_l.length x290).bind fun _ => ((idxL p1_l x290).bind fun x559 => ((S_spec_l5Label F p0_g_Size p0_g_Rows (p1_l.take (x290.toNat)) x557).bind fun r560 => ((S_spec_l5Label F p0_g_Size p0_g_Rows (p1_l.take (x290.toNat)) x559).bind fun r561 => (if (decide (r561 < r560)) = true then some (Sum.inr (Sum.inr false)) else some (Sum.inl (IntKind.i64.wrap (x498 + 1)))))))))) else some (Sum.inr (Sum.inl ())))

def S_spec_IsLexOrder_l2 (F : Nat) (p0_g_Size : Int) (p0_g_Rows : List Int) (p1_l : List Int) (x290 : Int) : Option ((Int) ⊕ (Unit ⊕ Bool)) :=
  (if (decide (x290 < (p1_l.length : Int))) = true then (loopN (σ := Int) (β := (Unit ⊕ Bool)) (fun s => S_spec_IsLexOrder_l4 F p0_g_Size p0_g_Rows p1_l x290 s) F (IntKind.i64.wrap (x290 + 1))).bind (fun b => (match b with | .inl o => S_spec_IsLexOrder_j3 F x290 | .inr o => some (Sum.inr (Sum.inr o)))) else some (Sum.inr (Sum.inl ())))

def S_spec_IsLexOrder (F : Nat) (p0_g_Size : Int) (p0_g_Rows : List Int) (p1_l : List Int) : Option (Bool) :=
  ((S_spec_IsOrder F p0_g_Size p0_g_Rows p1_l).bind fun r11 => (if (!r11) = true then some false else (loopN (σ := Int) (β := (Unit ⊕ Bool)) (fun s => S_spec_IsLexOrder_l2 F p0_g_Size p0_g_Rows p1_l s) F 1).bind (fun b => (match b with | .inl o => S_spec_IsLexOrder_j1 F | .inr o => some o))))

def S_spec_l3Grow_j1 (F : Nat) (x21 : Int) : Option (Int) :=
  some x21

def S_spec_l3Grow_l2 (F : Nat) (p0_g_Size : Int) (p0_g_Rows : List Int) (p2_set : Int) (x24 : Int) (x25 : Int) : Option ((Int × Int) ⊕ (Int)) :=
  (if (decide (x25 < p0_g_Size)) = true then ((S_spec_AroundSet F p0_g_Size p0_g_Rows x24).bind fun r37 => some (Sum.inl ((bAnd r37 p2_set), (IntKind.i64.wrap (x25 + 1))))) else some (Sum.inr x24))

def S_spec_l3Grow (F : Nat) (p0_g_Size : Int) (p0_g_Rows : List Int) (p1_from : Int) (p2_set : Int) : Option (Int) :=
  (loopN (σ := (Int × Int)) (β := Int) (fun s => S_spec_l3Grow_l2 F p0_g_Size p0_g_Rows p2_set s.1 s.2) F (p1_from, 0)).bind (fun b => S_spec_l3Grow_j1 F b)

def S_spec_PartsOf_j1 (F : Nat) (l61 : List Int) : Option ((List (Int))) :=
  some l61

def S_spec_PartsOf_j3 (F : Nat) (p0_g_Size : Int) (p0_g_Rows : List Int) (p1_set : Int) (l64 : List Int) (x65 : Int) (p97 : Bool) : Option (((List Int) × Int) ⊕ (((List Int)))) :=
  (if p97 = true then ((S_spec_ListOf F x65).bind fun r102 => ((idxL r102 0).bind fun x104 => ((nnO x104).bind fun _ => ((S_spec_l3Grow F p0_g_Size p0_g_Rows (shL 1 x104) p1_set).bind fun r107 => ((catO l64.length ([r107] : List (Int)).length).bind fun _ => some (Sum.inl ((l64 ++ ([r107] : List (Int))), (IntKind.i64.wrap (x65 - r107))))))))) else some (Sum.inr l64))

def S_spec_PartsOf_l2 (F : Nat) (p0_g_Size : Int) (p0_g_Rows : List Int) (p1_set : Int) (l64 : List Int) (x65 : Int) : Option (((List Int) × Int) ⊕ (((List Int)))) :=
  (if (decide ((0 : Int) < x65)) = true then ((S_spec_IsSet F p0_g_Size p0_g_Rows p1_set).bind fun r113 => S_spec_PartsOf_j3 F p0_g_Size p0_g_Rows p1_set l64 x65 r113) else S_spec_PartsOf_j3 F p0_g_Size p0_g_Rows p1_set l64 x65 false)

def S_spec_PartsOf (F : Nat) (p0_g_Size : Int) (p0_g_Rows : List Int) (p1_set : Int) : Option ((List (Int))) :=
  (loopN (σ := ((List Int) × Int)) (β := (((List Int)))) (fun s => S_spec_PartsOf_l2 F p0_g_Size p0_g_Rows p1_set s.1 s.2) F (([] : List (Int)), p1_set)).bind (fun b => S_spec_PartsOf_j1 F b)

def S_spec_IsConnected_j1 (F : Nat) (p8 : Bool) : Option (Bool) :=
  some p8

def S_spec_IsConnected (F : Nat) (p0_g_Size : Int) (p0_g_Rows : List Int) : Option (Bool) :=
  ((S_spec_IsGraph F p0_g_Size p0_g_Rows).bind fun r9 => (if r9 = true then ((nnO p0_g_Size).bind fun _ => ((S_spec_PartsOf F p0_g_Size p0_g_Rows (IntKind.i64.wrap ((shL 1 p0_g_Size) - 1))).bind fun r10 => S_spec_IsConnected_j1 F ((r10.length : Int) == 1))) else S_spec_IsConnected_j1 F false))

def S_laws_FnOrders_j5 (F : Nat) (p192 : Bool) : Option (Bool) :=
  some p192

def S_laws_FnOrders_j4 (F : Nat) (p0_code : List Int) (p158 : Bool) : Option (Bool) :=
  (if p158 = true then some false else ((S_spec_DrawIsLexOrder F p0_code).bind fun r165 => ((S_spec_DrawIsOrder F p0_code).bind fun r174 => ((S_spec_DrawIsConnected F p0_code).bind fun r182 => ((S_impl_IsLexOrder F r165.1 r165.2.1 r165.2.2).bind fun r193 => ((S_spec_IsLexOrder F r165.1 r165.2.1 r165.2.2).bind fun r194 => (if (r193 == r194) = true then ((S_impl_IsOrder F r174.1 r174.2.1 r174.2.2).bind fun r195 => ((S_spec_IsOrder F r174.1 r174.2.1 r174.2.2).bind fun r196 => (if (r195 == r196) = true then ((S_impl_IsConnected F r182.1 r182.2).bind fun r197 => ((S_spec_IsConnected F r182.1 r182.2).bind fun r198 => S_laws_FnOrders_j5 F (r197 == r198))) else S_laws_FnOrders_j5 F false))) else S_laws_FnOrders_j5 F false)))))))

def S_laws_FnOrders_j3 (F : Nat) (p0_code : List Int) (p132 : Bool) : Option (Bool) :=
  (if p132 = true then some false else ((S_spec_DrawDistanceOf F p0_code).bind fun r138 => ((S_impl_DistanceOf F r138.1 r138.2.1 r138.2.2.1 r138.2.2.2).bind fun r143 => ((S_spec_DistanceOf F r138.1 r138.2.1 r138.2.2.1 r138.2.2.2).bind fun r199 => (if (r143 != r199) = true then S_laws_FnOrders_j4 F p0_code true else ((S_impl_DistanceOf F r138.1 r138.2.1 r138.2.2.2 r138.2.2.1).bind fun r200 => (if (r143 != r200) = true then S_laws_FnOrders_j4 F p0_code true else (if (r143 == 1) = true then ((S_impl_HasEdge F r138.1 r138.2.1 r138.2.2.1 r138.2.2.2).bind fun r201 => S_laws_FnOrders_j4 F p0_code (!r201)) else S_laws_FnOrders_j4 F p0_code false))))))))

def S_laws_FnOrders_j2 (F : Nat) (p0_code : List Int) (r15 : Int × (List (Int)) × Int) (r41 : (List (Int)) × Bool) (r46 : (List (Int)) × Bool) : Option (Bool) :=
  (if r41.2 = true then ((S_impl_IsConnected F r15.1 r15.2.1).bind fun r202 => S_laws_FnOrders_j3 F p0_code (r202 != ((r46.1.length : Int) == r15.1))) else S_laws_FnOrders_j3 F p0_code false)

def S_laws_FnOrders_l6 (F : Nat) (r15 : Int × (List (Int)) × Int) (r46 : (List (Int)) × Bool) (x204 : Int) : Option ((Int) ⊕ (Unit ⊕ Bool)) :=
  (if (decide (x204 < (r46.1.length : Int))) = true then ((idxL r46.1 x204).bind fun x248 => ((idxL r46.1 (IntKind.i64.wrap (x204 - 1))).bind fun x249 => ((S_impl_DistanceOf F r15.1 r15.2.1 r15.2.2 x248).bind fun r250 => ((S_impl_DistanceOf F r15.1 r15.2.1 r15.2.2 x249).bind fun r251 => (if (decide (r250 < r251)) = true then some (Sum.inr (Sum.inr false)) else some (Sum.inl (IntKind.i64.wrap (x204 + 1)))))))) else some (Sum.inr (Sum.inl ())))

def S_laws_FnOrders_j1 (F : Nat) (p0_code : List Int) (r15 : Int × (List (Int)) × Int) (r41 : (List (Int)) × Bool) (r46 : (List (Int)) × Bool) (p71 : Bool) : Option (Bool) :=
  (if p71 = true then some false else (loopN (σ := Int) (β := (Unit ⊕ Bool)) (fun s => S_laws_FnOrders_l6 F r15 r46 s) F 1).bind (fun b => (match b with | .inl o => S_laws_FnOrders_j2 F p0_code r15 r41 r46 | .inr o => some o)))

def S_laws_FnOrders (F : Nat) (p0_code : List Int) : Option (Bool) :=
  ((S_laws_big F p0_code).bind fun r9 => (if r9 = true then some true else ((S_spec_DrawLexOrder F p0_code).bind fun r15 => ((S_impl_LexOrder F r15.1 r15.2.1 r15.2.2).bind fun r21 => ((S_spec_LexOrder F r15.1 r15.2.1 r15.2.2).bind fun r26 => ((S_impl_CardinalityOrder F r15.1 r15.2.1 r15.2.2).bind fun r31 => ((S_spec_CardinalityOrder F r15.1 r15.2.1 r15.2.2).bind fun r36 => ((S_impl_BreadthOrder F r15.1 r15.2.1 r15.2.2).bind fun r41 => ((S_spec_BreadthOrder F r15.1 r15.2.1 r15.2.2).bind fun r46 => (if (r21.2 != r26.2) = true then S_laws_FnOrders_j1 F p0_code r15 r41 r46 true else ((S_laws_sameInts F r21.1 r26.1).bind fun r253 => (if (!r253) = true then S_laws_FnOrders_j1 F p0_code r15 r41 r46 true else (if (r31.2 != r36.2) = true then S_laws_FnOrders_j1 F p0_code r15 r41 r46 true else ((S_laws_sameInts F r31.1 r36.1).bind fun r254 => (if (!r254) = true then S_laws_FnOrders_j1 F p0_code r15 r41 r46 true else (if (r41.2 != r46.2) = true then S_laws_FnOrders_j1 F p0_code r15 r41 r46 true else ((S_laws_sameInts F r41.1 r46.1).bind fun r255 => (if (!r255) = true then S_laws_FnOrders_j1 F p0_code r15 r41 r46 true else (if r21.2 = true then ((S_impl_IsOrder F r15.1 r15.2.1 r26.1).bind fun r256 => (if (!r256) = true then S_laws_FnOrders_j1 F p0_code r15 r41 r46 true else ((S_impl_IsLexOrder F r15.1 r15.2.1 r26.1).bind fun r257 => (if (!r257) = true then S_laws_FnOrders_j1 F p0_code r15 r41 r46 true else ((S_impl_IsOrder F r15.1 r15.2.1 r36.1).bind fun r258 => S_laws_FnOrders_j1 F p0_code r15 r41 r46 (!r258)))))) else S_laws_FnOrders_j1 F p0_code r15 r41 r46 false)))))))))))))))))))

end Go.Proofs.Ytilfniehellmmaa
