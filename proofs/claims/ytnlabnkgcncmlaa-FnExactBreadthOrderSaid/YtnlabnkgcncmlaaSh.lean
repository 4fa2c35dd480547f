/- Proved here: nothing but what each Go function of the seat computes, as printed by my translator -/
import Derived.Test.YtnlabnkgcncmlaaK8
namespace Go.Proofs.Ytnlabnkgcncmlaa
open Go Go.RowKit
set_option linter.unusedVariables false
set_option linter.unusedSimpArgs false
set_option maxRecDepth 100000
set_option maxHeartbeats 4000000

def S_laws_szIntS (F : Nat) (p0_a : List Int) (p1_left : Int) : Option (Int) :=
  (if (decide ((IntKind.i64.wrap (p1_left - (p0_a.length : Int))) < 0)) = true then some (-1) else some (IntKind.i64.wrap (p1_left - (p0_a.length : Int))))

def S_laws_szGraph (F : Nat) (p0_a_Size : Int) (p0_a_Rows : List Int) (p1_left : Int) : Option (Int) :=
  ((S_laws_szIntS F p0_a_Rows p1_left).bind fun r6 => (if (decide (r6 < 0)) = true then some (-1) else some r6))

def S_spec_l1In_j1 (F : Nat) (p3 : Bool) : Option (Bool) :=
  some p3

def S_spec_l1In (F : Nat) (p0_x : Int) (p1_low : Int) (p2_high : Int) : Option (Bool) :=
  (if (decide (p1_low ≤ p0_x)) = true then S_spec_l1In_j1 F (decide (p0_x ≤ p2_high)) else S_spec_l1In_j1 F false)

def S_spec_IsGraph_j2 (F : Nat) : Option (Bool) :=
  some true

def S_spec_IsGraph_j4 (F : Nat) (x319 : Int) : Option ((Int) ⊕ (Unit ⊕ Bool)) :=
  some (Sum.inl (IntKind.i64.wrap (x319 + 1)))

def S_spec_IsGraph_j7 (F : Nat) (x564 : Int) (p611 : Bool) : Option ((Int) ⊕ (Unit ⊕ Bool)) :=
  (if p611 = true then some (Sum.inr (Sum.inr false)) else some (Sum.inl (IntKind.i64.wrap (x564 + 1))))

def S_spec_IsGraph_l6 (F : Nat) (p0_g_Size : Int) (p0_g_Rows : List Int) (x319 : Int) (x564 : Int) : Option ((Int) ⊕ (Unit ⊕ Bool)) :=
  (if (decide (x564 < p0_g_Size)) = true then ((idxL p0_g_Rows x319).bind fun x613 => ((nnO x564).bind fun _ => (if ((bAnd (shR x613 x564) 1) == 1) = true then ((idxL p0_g_Rows x564).bind fun x614 => (if (decide (x614 < 0)) = true then S_spec_IsGraph_j7 F x564 true else ((idxL p0_g_Rows x564).bind fun x615 => ((nnO p0_g_Size).bind fun _ => (if (decide ((shL 1 p0_g_Size) ≤ x615)) = true then S_spec_IsGraph_j7 F x564 true else ((idxL p0_g_Rows x564).bind fun x616 => ((nnO x319).bind fun _ => S_spec_IsGraph_j7 F x564 ((bAnd (shR x616 x319) 1) == 0)))))))) else S_spec_IsGraph_j7 F x564 false))) else some (Sum.inr (Sum.inl ())))

def S_spec_IsGraph_j5 (F : Nat) (p0_g_Size : Int) (p0_g_Rows : List Int) (x319 : Int) (p561 : Bool) : Option ((Int) ⊕ (Unit ⊕ Bool)) :=
  (if p561 = true then some (Sum.inr (Sum.inr false)) else (loopN (σ := Int) (β := (Unit ⊕ Bool)) (fun s => S_spec_IsGraph_l6 F p0_g_Size p0_g_Rows x319 s) F 0).bind (fun b => (match b with | .inl o => S_spec_IsGraph_j4 F x319 | .inr o => some (Sum.inr (Sum.inr o)))))

def S_spec_IsGraph_l3 (F : Nat) (p0_g_Size : Int) (p0_g_Rows : List Int) (x319 : Int) : Option ((Int) ⊕ (Unit ⊕ Bool)) :=
  (if (decide (x319 < p0_g_Size)) = true then ((idxL p0_g_Rows x319).bind fun x617 => (if (decide (x617 < 0)) = true then S_spec_IsGraph_j5 F p0_g_Size p0_g_Rows x319 true else ((idxL p0_g_Rows x319).bind fun x618 => ((nnO p0_g_Size).bind fun _ => (if (decide ((shL 1 p0_g_Size) ≤ x618)) = true then S_spec_IsGraph_j5 F p0_g_Size p0_g_Rows x319 true else ((idxL p0_g_Rows x319).bind fun x619 => ((nnO x319).bind fun _ => S_spec_IsGraph_j5 F p0_g_Size p0_g_Rows x319 ((bAnd (shR x619 x319) 1) == 1)))))))) else some (Sum.inr (Sum.inl ())))

def S_spec_IsGraph_j1 (F : Nat) (p0_g_Size : Int) (p0_g_Rows : List Int) (p12 : Bool) : Option (Bool) :=
  (if p12 = true then some false else (loopN (σ := Int) (β := (Unit ⊕ Bool)) (fun s => S_spec_IsGraph_l3 F p0_g_Size p0_g_Rows s) F 0).bind (fun b => (match b with | .inl o => S_spec_IsGraph_j2 F | .inr o => some o)))

def S_spec_IsGraph (F : Nat) (p0_g_Size : Int) (p0_g_Rows : List Int) : Option (Bool) :=
  ((S_spec_l1In F p0_g_Size 1 7).bind fun r620 => (if (!r620) = true then S_spec_IsGraph_j1 F p0_g_Size p0_g_Rows true else S_spec_IsGraph_j1 F p0_g_Size p0_g_Rows ((p0_g_Rows.length : Int) != p0_g_Size)))

def S_spec_IsSet_j1 (F : Nat) (p6 : Bool) : Option (Bool) :=
  some p6

def S_spec_IsSet (F : Nat) (p0_g_Size : Int) (p0_g_Rows : List Int) (p1_set : Int) : Option (Bool) :=
  ((S_spec_IsGraph F p0_g_Size p0_g_Rows).bind fun r7 => (if r7 = true then (if (decide ((0 : Int) ≤ p1_set)) = true then ((nnO p0_g_Size).bind fun _ => S_spec_IsSet_j1 F (decide (p1_set < (shL 1 p0_g_Size)))) else S_spec_IsSet_j1 F false) else S_spec_IsSet_j1 F false))

def S_spec_IsClique_j1 (F : Nat) : Option (Bool) :=
  some true

def S_spec_IsClique_j3 (F : Nat) (x46 : Int) (p72 : Bool) : Option ((Int) ⊕ (Unit ⊕ Bool)) :=
  (if p72 = true then some (Sum.inr (Sum.inr false)) else some (Sum.inl (IntKind.i64.wrap (x46 + 1))))

def S_spec_IsClique_l2 (F : Nat) (p0_g_Size : Int) (p0_g_Rows : List Int) (p1_set : Int) (x46 : Int) : Option ((Int) ⊕ (Unit ⊕ Bool)) :=
  (if (decide (x46 < p0_g_Size)) = true then ((nnO x46).bind fun _ => (if ((bAnd (shR p1_set x46) 1) == 1) = true then ((idxL p0_g_Rows x46).bind fun x74 => ((nnO x46).bind fun _ => S_spec_IsClique_j3 F x46 ((bAnd x74 p1_set) != (IntKind.i64.wrap (p1_set - (shL 1 x46)))))) else S_spec_IsClique_j3 F x46 false)) else some (Sum.inr (Sum.inl ())))

def S_spec_IsClique (F : Nat) (p0_g_Size : Int) (p0_g_Rows : List Int) (p1_set : Int) : Option (Bool) :=
  ((S_spec_IsSet F p0_g_Size p0_g_Rows p1_set).bind fun r11 => (if (!r11) = true then some false else (loopN (σ := Int) (β := (Unit ⊕ Bool)) (fun s => S_spec_IsClique_l2 F p0_g_Size p0_g_Rows p1_set s) F 0).bind (fun b => (match b with | .inl o => S_spec_IsClique_j1 F | .inr o => some o))))

def S_spec_l6Simplicial (F : Nat) (p0_g_Size : Int) (p0_g_Rows : List Int) (p1_v : Int) (p2_set : Int) : Option (Bool) :=
  ((idxL p0_g_Rows p1_v).bind fun x7 => ((S_spec_IsClique F p0_g_Size p0_g_Rows (bAnd x7 p2_set)).bind fun r8 => some r8))

def S_spec_SimplicialOf_j1 (F : Nat) (l57 : List Int) : Option ((List (Int))) :=
  some l57

def S_spec_SimplicialOf_j4 (F : Nat) (x62 : Int) (l100 : List Int) : Option (((List Int) × Int) ⊕ (((List Int)))) :=
  some (Sum.inl (l100, (IntKind.i64.wrap (x62 + 1))))

def S_spec_SimplicialOf_j3 (F : Nat) (p0_g_Size : Int) (p0_g_Rows : List Int) (l61 : List Int) (x62 : Int) (p92 : Bool) : Option (((List Int) × Int) ⊕ (((List Int)))) :=
  (if p92 = true then ((nnO p0_g_Size).bind fun _ => ((S_spec_l6Simplicial F p0_g_Size p0_g_Rows x62 (IntKind.i64.wrap ((shL 1 p0_g_Size) - 1))).bind fun r103 => (if r103 = true then ((catO l61.length ([x62] : List (Int)).length).bind fun _ => S_spec_SimplicialOf_j4 F x62 (l61 ++ ([x62] : List (Int)))) else S_spec_SimplicialOf_j4 F x62 l61))) else some (Sum.inr l61))

def S_spec_SimplicialOf_l2 (F : Nat) (p0_g_Size : Int) (p0_g_Rows : List Int) (l61 : List Int) (x62 : Int) : Option (((List Int) × Int) ⊕ (((List Int)))) :=
  (if (decide (x62 < p0_g_Size)) = true then ((S_spec_IsGraph F p0_g_Size p0_g_Rows).bind fun r106 => S_spec_SimplicialOf_j3 F p0_g_Size p0_g_Rows l61 x62 r106) else S_spec_SimplicialOf_j3 F p0_g_Size p0_g_Rows l61 x62 false)

def S_spec_SimplicialOf (F : Nat) (p0_g_Size : Int) (p0_g_Rows : List Int) : Option ((List (Int))) :=
  (loopN (σ := ((List Int) × Int)) (β := (((List Int)))) (fun s => S_spec_SimplicialOf_l2 F p0_g_Size p0_g_Rows s.1 s.2) F (([] : List (Int)), 0)).bind (fun b => S_spec_SimplicialOf_j1 F b)

def S_laws_toIntS_j1 (F : Nat) (l34 : List Int) : Option ((List (Int))) :=
  some l34

def S_laws_toIntS_l2 (F : Nat) (p0_a : List Int) (l46 : List Int) (x47 : Int) : Option (((List Int) × Int) ⊕ (((List Int)))) :=
  (if (decide (x47 < (p0_a.length : Int))) = true then ((idxL p0_a x47).bind fun x62 => ((idxL l46 x47).bind fun x63 => some (Sum.inl ((l46.set (x47.toNat) x62), (IntKind.i64.wrap (x47 + 1)))))) else some (Sum.inr l46))

def S_laws_toIntS (F : Nat) (p0_a : List Int) : Option ((List (Int))) :=
  ((mkO (p0_a.length : Int)).bind fun _ => (loopN (σ := ((List Int) × Int)) (β := (((List Int)))) (fun s => S_laws_toIntS_l2 F p0_a s.1 s.2) F ((List.replicate (p0_a.length : Int).toNat (0 : Int)), 0)).bind (fun b => S_laws_toIntS_j1 F b))

def S_laws_toGraph (F : Nat) (p0_a_Size : Int) (p0_a_Rows : List Int) : Option (Int × (List (Int))) :=
  ((S_laws_toIntS F p0_a_Rows).bind fun r13 => some (p0_a_Size, r13))

def S_impl_has (F : Nat) (p0_set : Int) (p1_v : Int) : Option (Bool) :=
  ((nnO p1_v).bind fun _ => some ((bAnd (shR p0_set p1_v) 1) == 1))

def S_impl_within_j1 (F : Nat) (p3 : Bool) : Option (Bool) :=
  some p3

def S_impl_within (F : Nat) (p0_n : Int) (p1_low : Int) (p2_high : Int) : Option (Bool) :=
  (if (decide (p1_low ≤ p0_n)) = true then S_impl_within_j1 F (decide (p0_n ≤ p2_high)) else S_impl_within_j1 F false)

def S_impl_IsGraph_j3 (F : Nat) : Option (Bool) :=
  some true

def S_impl_IsGraph_j5 (F : Nat) (x262 : Int) : Option ((Int) ⊕ (Unit ⊕ Bool)) :=
  some (Sum.inl (IntKind.i64.wrap (x262 + 1)))

def S_impl_IsGraph_l6 (F : Nat) (p0_g_Rows : List Int) (x262 : Int) (x412 : Int) (x414 : Int) : Option ((Int) ⊕ (Unit ⊕ Bool)) :=
  (if (decide (x414 < x262)) = true then ((idxL p0_g_Rows x414).bind fun x453 => ((S_impl_has F x412 x414).bind fun r454 => ((S_impl_has F x453 x262).bind fun r455 => (if (r454 != r455) = true then some (Sum.inr (Sum.inr false)) else some (Sum.inl (IntKind.i64.wrap (x414 + 1))))))) else some (Sum.inr (Sum.inl ())))

def S_impl_IsGraph_l4 (F : Nat) (p0_g_Rows : List Int) (x262 : Int) : Option ((Int) ⊕ (Unit ⊕ Bool)) :=
  (if (decide (x262 < (p0_g_Rows.length : Int))) = true then ((idxL p0_g_Rows x262).bind fun x412 => (loopN (σ := Int) (β := (Unit ⊕ Bool)) (fun s => S_impl_IsGraph_l6 F p0_g_Rows x262 x412 s) F 0).bind (fun b => (match b with | .inl o => S_impl_IsGraph_j5 F x262 | .inr o => some (Sum.inr (Sum.inr o))))) else some (Sum.inr (Sum.inl ())))

def S_impl_IsGraph_j2 (F : Nat) (p0_g_Rows : List Int) : Option (Bool) :=
  (loopN (σ := Int) (β := (Unit ⊕ Bool)) (fun s => S_impl_IsGraph_l4 F p0_g_Rows s) F 0).bind (fun b => (match b with | .inl o => S_impl_IsGraph_j3 F | .inr o => some o))

def S_impl_IsGraph_j8 (F : Nat) (x458 : Int) (p501 : Bool) : Option ((Int) ⊕ (Unit ⊕ Bool)) :=
  (if p501 = true then some (Sum.inr (Sum.inr false)) else some (Sum.inl (IntKind.i64.wrap (x458 + 1))))

def S_impl_IsGraph_l7 (F : Nat) (p0_g_Size : Int) (p0_g_Rows : List Int) (x458 : Int) : Option ((Int) ⊕ (Unit ⊕ Bool)) :=
  (if (decide (x458 < (p0_g_Rows.length : Int))) = true then ((idxL p0_g_Rows x458).bind fun x497 => ((nnO p0_g_Size).bind fun _ => ((S_impl_within F x497 0 (IntKind.i64.wrap ((shL 1 p0_g_Size) - 1))).bind fun r503 => (if (!r503) = true then S_impl_IsGraph_j8 F x458 true else ((S_impl_has F x497 x458).bind fun r504 => S_impl_IsGraph_j8 F x458 r504))))) else some (Sum.inr (Sum.inl ())))

def S_impl_IsGraph_j1 (F : Nat) (p0_g_Size : Int) (p0_g_Rows : List Int) (p12 : Bool) : Option (Bool) :=
  (if p12 = true then some false else (loopN (σ := Int) (β := (Unit ⊕ Bool)) (fun s => S_impl_IsGraph_l7 F p0_g_Size p0_g_Rows s) F 0).bind (fun b => (match b with | .inl o => S_impl_IsGraph_j2 F p0_g_Rows | .inr o => some o)))

def S_impl_IsGraph (F : Nat) (p0_g_Size : Int) (p0_g_Rows : List Int) : Option (Bool) :=
  ((S_impl_within F p0_g_Size 1 7).bind fun r505 => (if (!r505) = true then S_impl_IsGraph_j1 F p0_g_Size p0_g_Rows true else S_impl_IsGraph_j1 F p0_g_Size p0_g_Rows ((p0_g_Rows.length : Int) != p0_g_Size)))

def S_impl_ListOf_j1 (F : Nat) (l54 : List Int) : Option ((List (Int))) :=
  some l54

def S_impl_ListOf_j3 (F : Nat) (x59 : Int) (l87 : List Int) : Option (((List Int) × Int) ⊕ (((List Int)))) :=
  some (Sum.inl (l87, (IntKind.i64.wrap (x59 + 1))))

def S_impl_ListOf_l2 (F : Nat) (p0_set : Int) (l58 : List Int) (x59 : Int) : Option (((List Int) × Int) ⊕ (((List Int)))) :=
  (if (decide (x59 < 7)) = true then ((S_impl_has F p0_set x59).bind fun r91 => (if r91 = true then ((catO l58.length ([x59] : List (Int)).length).bind fun _ => S_impl_ListOf_j3 F x59 (l58 ++ ([x59] : List (Int)))) else S_impl_ListOf_j3 F x59 l58)) else some (Sum.inr l58))

def S_impl_ListOf (F : Nat) (p0_set : Int) : Option ((List (Int))) :=
  ((S_impl_within F p0_set 0 127).bind fun r12 => (if (!r12) = true then some ([] : List (Int)) else (loopN (σ := ((List Int) × Int)) (β := (((List Int)))) (fun s => S_impl_ListOf_l2 F p0_set s.1 s.2) F (([] : List (Int)), 0)).bind (fun b => S_impl_ListOf_j1 F b)))

def S_impl_isClique_j1 (F : Nat) : Option (Bool) :=
  some true

def S_impl_isClique_l2 (F : Nat) (p0_g_Rows : List Int) (p1_set : Int) (r49 : (List (Int))) (x51 : Int) : Option ((Int) ⊕ (Unit ⊕ Bool)) :=
  (if (decide (x51 < (r49.length : Int))) = true then ((idxL r49 x51).bind fun x81 => ((idxL p0_g_Rows x81).bind fun x84 => ((nnO x81).bind fun _ => (if ((bAndNot p1_set x84) != (shL 1 x81)) = true then some (Sum.inr (Sum.inr false)) else some (Sum.inl (IntKind.i64.wrap (x51 + 1))))))) else some (Sum.inr (Sum.inl ())))

def S_impl_isClique (F : Nat) (p0_g_Size : Int) (p0_g_Rows : List Int) (p1_set : Int) : Option (Bool) :=
  ((S_impl_ListOf F p1_set).bind fun r49 => (loopN (σ := Int) (β := (Unit ⊕ Bool)) (fun s => S_impl_isClique_l2 F p0_g_Rows p1_set r49 s) F 0).bind (fun b => (match b with | .inl o => S_impl_isClique_j1 F | .inr o => some o)))

def S_impl_SimplicialOf_j1 (F : Nat) (l64 : List Int) : Option ((List (Int))) :=
  some l64

def S_impl_SimplicialOf_j3 (F : Nat) (x69 : Int) (l103 : List Int) : Option (((List Int) × Int) ⊕ (((List Int)))) :=
  some (Sum.inl (l103, (IntKind.i64.wrap (x69 + 1))))

def S_impl_SimplicialOf_l2 (F : Nat) (p0_g_Size : Int) (p0_g_Rows : List Int) (l68 : List Int) (x69 : Int) : Option (((List Int) × Int) ⊕ (((List Int)))) :=
  (if (decide (x69 < (p0_g_Rows.length : Int))) = true then ((idxL p0_g_Rows x69).bind fun x106 => ((S_impl_isClique F p0_g_Size p0_g_Rows x106).bind fun r109 => (if r109 = true then ((catO l68.length ([x69] : List (Int)).length).bind fun _ => S_impl_SimplicialOf_j3 F x69 (l68 ++ ([x69] : List (Int)))) else S_impl_SimplicialOf_j3 F x69 l68))) else some (Sum.inr l68))

def S_impl_SimplicialOf (F : Nat) (p0_g_Size : Int) (p0_g_Rows : List Int) : Option ((List (Int))) :=
  ((S_impl_IsGraph F p0_g_Size p0_g_Rows).bind fun r14 => (if (!r14) = true then some ([] : List (Int)) else (loopN (σ := ((List Int) × Int)) (β := (((List Int)))) (fun s => S_impl_SimplicialOf_l2 F p0_g_Size p0_g_Rows s.1 s.2) F (([] : List (Int)), 0)).bind (fun b => S_impl_SimplicialOf_j1 F b)))

def S_laws_eqIntS_j1 (F : Nat) : Option (Bool) :=
  some true

def S_laws_eqIntS_l2 (F : Nat) (p0_a : List Int) (p1_b : List Int) (x44 : Int) : Option ((Int) ⊕ (Unit ⊕ Bool)) :=
  (if (decide (x44 < (p0_a.length : Int))) = true then ((idxL p0_a x44).bind fun x74 => ((idxL p1_b x44).bind fun x75 => (if (x74 != x75) = true then some (Sum.inr (Sum.inr false)) else some (Sum.inl (IntKind.i64.wrap (x44 + 1)))))) else some (Sum.inr (Sum.inl ())))

def S_laws_eqIntS (F : Nat) (p0_a : List Int) (p1_b : List Int) : Option (Bool) :=
  (if ((p0_a.length : Int) != (p1_b.length : Int)) = true then some false else (loopN (σ := Int) (β := (Unit ⊕ Bool)) (fun s => S_laws_eqIntS_l2 F p0_a p1_b s) F 0).bind (fun b => (match b with | .inl o => S_laws_eqIntS_j1 F | .inr o => some o)))

def S_laws_eqGraph (F : Nat) (p0_a_Size : Int) (p0_a_Rows : List Int) (p1_b_Size : Int) (p1_b_Rows : List Int) : Option (Bool) :=
  (if (p0_a_Size != p1_b_Size) = true then some false else ((S_laws_eqIntS F p0_a_Rows p1_b_Rows).bind fun r18 => (if (!r18) = true then some false else some true)))

def S_laws_markIntS_j1 (F : Nat) (x39 : Int) (l40 : List Int) : Option (Int × (List (Int))) :=
  some (x39, l40)

def S_laws_markIntS_l2 (F : Nat) (l55 : List Int) (x56 : Int) (x57 : Int) : Option (((List Int) × Int × Int) ⊕ ((Int × (List Int)))) :=
  (if (decide (x57 < (l55.length : Int))) = true then ((idxL l55 x57).bind fun x77 => some (Sum.inl ((l55.set (x57.toNat) x56), (IntKind.i64.wrap (x56 + 1)), (IntKind.i64.wrap (x57 + 1))))) else some (Sum.inr (x56, l55)))

def S_laws_markIntS (F : Nat) (p0_a : List Int) (p1_k : Int) : Option (Int × (List (Int))) :=
  (loopN (σ := ((List Int) × Int × Int)) (β := ((Int × (List Int)))) (fun s => S_laws_markIntS_l2 F s.1 s.2.1 s.2.2) F (p0_a, p1_k, 0)).bind (fun b => S_laws_markIntS_j1 F b.1 b.2)

def S_laws_markGraph (F : Nat) (p0_a_Size : Int) (p0_a_Rows : List Int) (p1_k : Int) : Option (Int × (List (Int))) :=
  ((S_laws_markIntS F p0_a_Rows p1_k).bind fun r6 => some (r6.1, r6.2))

def S_laws_heldIntS_j1 (F : Nat) (x50 : Int) : Option (Int) :=
  some x50

def S_laws_heldIntS_l2 (F : Nat) (p0_a : List Int) (x53 : Int) (x54 : Int) : Option ((Int × Int) ⊕ (Int ⊕ Int)) :=
  (if (decide (x54 < (p0_a.length : Int))) = true then ((idxL p0_a x54).bind fun x97 => (if (x97 != x53) = true then some (Sum.inr (Sum.inr (-1))) else some (Sum.inl ((IntKind.i64.wrap (x53 + 1)), (IntKind.i64.wrap (x54 + 1)))))) else some (Sum.inr (Sum.inl x53)))

def S_laws_heldIntS (F : Nat) (p0_a : List Int) (p1_k : Int) : Option (Int) :=
  (loopN (σ := (Int × Int)) (β := (Int ⊕ Int)) (fun s => S_laws_heldIntS_l2 F p0_a s.1 s.2) F (p1_k, 0)).bind (fun b => (match b with | .inl o => S_laws_heldIntS_j1 F o | .inr o => some o))

def S_laws_FnExactSimplicialOf_j1 (F : Nat) (p0_aG_Size : Int) (p0_aG_Rows : List Int) (r20 : (List (Int))) (r32 : (List (Int))) (p72 : Bool) : Option (Bool) :=
  (if p72 = true then some false else ((S_laws_markIntS F r32 1).bind fun r77 => ((S_laws_heldIntS F r77.2 1).bind fun r81 => (if (decide (r81 < 0)) = true then some false else (if (r81 != r77.1) = true then some false else ((S_laws_toGraph F p0_aG_Size p0_aG_Rows).bind fun r97 => ((S_impl_SimplicialOf F r97.1 r97.2).bind fun r99 => ((S_laws_eqIntS F r99 r20).bind fun r108 => (if (!r108) = true then some false else ((S_laws_heldIntS F r77.2 1).bind fun r113 => (if (decide (r113 < 0)) = true then some false else (if (r113 != r77.1) = true then some false else some true))))))))))))

def S_laws_FnExactSimplicialOf (F : Nat) (p0_aG_Size : Int) (p0_aG_Rows : List Int) : Option (Bool) :=
  ((S_laws_szGraph F p0_aG_Size p0_aG_Rows 1048576).bind fun r7 => (if (decide (r7 < 0)) = true then some true else ((S_laws_toGraph F p0_aG_Size p0_aG_Rows).bind fun r18 => ((S_spec_SimplicialOf F r18.1 r18.2).bind fun r20 => ((S_laws_toGraph F p0_aG_Size p0_aG_Rows).bind fun r26 => ((S_impl_SimplicialOf F r26.1 r26.2).bind fun r32 => ((S_laws_eqIntS F r32 r20).bind fun r41 => (if (!r41) = true then some false else ((S_laws_toGraph F p0_aG_Size p0_aG_Rows).bind fun r56 => ((S_laws_eqGraph F r26.1 r26.2 r56.1 r56.2).bind fun r58 => (if (!r58) = true then some false else ((S_laws_markGraph F r26.1 r26.2 1).bind fun r63 => (if (decide (r63.1 < 0)) = true then S_laws_FnExactSimplicialOf_j1 F p0_aG_Size p0_aG_Rows r20 r32 true else ((S_laws_eqIntS F r32 r20).bind fun r125 => S_laws_FnExactSimplicialOf_j1 F p0_aG_Size p0_aG_Rows r20 r32 (!r125)))))))))))))))

def S_spec_SetOf_j1 (F : Nat) (x95 : Int) : Option (Int × Bool) :=
  some (x95, true)

def S_spec_SetOf_j3 (F : Nat) (p0_l : List Int) (x98 : Int) (x99 : Int) (p182 : Bool) : Option ((Int × Int) ⊕ (Int ⊕ (Int × Bool))) :=
  (if p182 = true then some (Sum.inr (Sum.inr (0, false))) else ((idxL p0_l x99).bind fun x184 => ((nnO x184).bind fun _ => some (Sum.inl ((IntKind.i64.wrap (x98 + (shL 1 x184))), (IntKind.i64.wrap (x99 + 1)))))))

def S_spec_SetOf_l2 (F : Nat) (p0_l : List Int) (x98 : Int) (x99 : Int) : Option ((Int × Int) ⊕ (Int ⊕ (Int × Bool))) :=
  (if (decide (x99 < (p0_l.length : Int))) = true then ((idxL p0_l x99).bind fun x185 => ((S_spec_l1In F x185 0 6).bind fun r186 => (if (!r186) = true then S_spec_SetOf_j3 F p0_l x98 x99 true else ((idxL p0_l x99).bind fun x187 => ((nnO x187).bind fun _ => S_spec_SetOf_j3 F p0_l x98 x99 ((bAnd (shR x98 x187) 1) == 1)))))) else some (Sum.inr (Sum.inl x98)))

def S_spec_SetOf (F : Nat) (p0_l : List Int) : Option (Int × Bool) :=
  (loopN (σ := (Int × Int)) (β := (Int ⊕ (Int × Bool))) (fun s => S_spec_SetOf_l2 F p0_l s.1 s.2) F (0, 0)).bind (fun b => (match b with | .inl o => S_spec_SetOf_j1 F o | .inr o => some o))

def S_spec_l4Distinct_j1 (F : Nat) (p10 : Bool) : Option (Bool) :=
  some p10

def S_spec_l4Distinct (F : Nat) (p0_g_Size : Int) (p0_g_Rows : List Int) (p1_l : List Int) : Option (Bool) :=
  ((S_spec_SetOf F p1_l).bind fun r6 => ((S_spec_IsGraph F p0_g_Size p0_g_Rows).bind fun r11 => (if r11 = true then (if r6.2 = true then ((S_spec_IsSet F p0_g_Size p0_g_Rows r6.1).bind fun r12 => S_spec_l4Distinct_j1 F r12) else S_spec_l4Distinct_j1 F false) else S_spec_l4Distinct_j1 F false)))

def S_spec_IsOrder_j1 (F : Nat) (p6 : Bool) : Option (Bool) :=
  some p6

def S_spec_IsOrder (F : Nat) (p0_g_Size : Int) (p0_g_Rows : List Int) (p1_l : List Int) : Option (Bool) :=
  ((S_spec_l4Distinct F p0_g_Size p0_g_Rows p1_l).bind fun r7 => (if r7 = true then S_spec_IsOrder_j1 F ((p1_l.length : Int) == p0_g_Size) else S_spec_IsOrder_j1 F false))

def S_spec_l2Edge (F : Nat) (p0_g_Size : Int) (p0_g_Rows : List Int) (p1_v : Int) (p2_w : Int) : Option (Bool) :=
  ((idxL p0_g_Rows p1_v).bind fun x6 => ((nnO p2_w).bind fun _ => some ((bAnd (shR x6 p2_w) 1) == 1)))

def S_spec_l5Label_j1 (F : Nat) (x47 : Int) : Option (Int) :=
  some x47

def S_spec_l5Label_j3 (F : Nat) (x51 : Int) (x82 : Int) : Option ((Int × Int) ⊕ (Int)) :=
  some (Sum.inl (x82, (IntKind.i64.wrap (x51 + 1))))

def S_spec_l5Label_j4 (F : Nat) (x50 : Int) (x51 : Int) (p87 : Bool) : Option ((Int × Int) ⊕ (Int)) :=
  (if p87 = true then S_spec_l5Label_j3 F x51 (IntKind.i64.wrap ((IntKind.i64.wrap (x50 * 2)) + 1)) else S_spec_l5Label_j3 F x51 (IntKind.i64.wrap (x50 * 2)))

def S_spec_l5Label_l2 (F : Nat) (p0_g_Size : Int) (p0_g_Rows : List Int) (p1_order : List Int) (p2_v : Int) (x50 : Int) (x51 : Int) : Option ((Int × Int) ⊕ (Int)) :=
  (if (decide (x51 < 7)) = true then (if (decide (x51 < (p1_order.length : Int))) = true then ((idxL p1_order x51).bind fun x88 => ((S_spec_l2Edge F p0_g_Size p0_g_Rows x88 p2_v).bind fun r89 => S_spec_l5Label_j4 F x50 x51 r89)) else S_spec_l5Label_j4 F x50 x51 false) else some (Sum.inr x50))

def S_spec_l5Label (F : Nat) (p0_g_Size : Int) (p0_g_Rows : List Int) (p1_order : List Int) (p2_v : Int) : Option (Int) :=
  (loopN (σ := (Int × Int)) (β := Int) (fun s => S_spec_l5Label_l2 F p0_g_Size p0_g_Rows p1_order p2_v s.1 s.2) F (0, 0)).bind (fun b => S_spec_l5Label_j1 F b)

def S_spec_IsLexOrder_j1 (F : Nat) : Option (Bool) :=
  some true

def S_spec_IsLexOrder_j3 (F : Nat) (x290 : Int) : Option ((Int) ⊕ (Unit ⊕ Bool)) :=
  some (Sum.inl (IntKind.i64.wrap (x290 + 1)))

def S_spec_IsLexOrder_l4 (F : Nat) (p0_g_Size : Int) (p0_g_Rows : List Int) (p1_l : List Int) (x290 : Int) (x498 : Int) : Option ((Int) ⊕ (Unit ⊕ Bool)) :=
  (if (decide (x498 < (p1_l.length : Int))) = true then ((slO p1_l.length x290).bind fun _ => ((idxL p1_l x498).bind fun x557 => ((slO p1_l.length x290).bind fun _ => ((idxL p1_l x290).bind fun x559 => ((S_spec_l5Label F p0_g_Size p0_g_Rows (p1_l.take (x290.toNat)) x557).bind fun r560 => ((S_spec_l5Label F p0_g_Size p0_g_Rows (p1_l.take (x290.toNat)) x559).bind fun r561 => (if (decide (r561 < r560)) = true then some (Sum.inr (Sum.inr false)) else some (Sum.inl (IntKind.i64.wrap (x498 + 1)))))))))) else some (Sum.inr (Sum.inl ())))

def S_spec_IsLexOrder_l2 (F : Nat) (p0_g_Size : Int) (p0_g_Rows : List Int) (p1_l : List Int) (x290 : Int) : Option ((Int) ⊕ (Unit ⊕ Bool)) :=
  (if (decide (x290 < (p1_l.length : Int))) = true then (loopN (σ := Int) (β := (Unit ⊕ Bool)) (fun s => S_spec_IsLexOrder_l4 F p0_g_Size p0_g_Rows p1_l x290 s) F (IntKind.i64.wrap (x290 + 1))).bind (fun b => (match b with | .inl o => S_spec_IsLexOrder_j3 F x290 | .inr o => some (Sum.inr (Sum.inr o)))) else some (Sum.inr (Sum.inl ())))

def S_spec_IsLexOrder (F : Nat) (p0_g_Size : Int) (p0_g_Rows : List Int) (p1_l : List Int) : Option (Bool) :=
  ((S_spec_IsOrder F p0_g_Size p0_g_Rows p1_l).bind fun r11 => (if (!r11) = true then some false else (loopN (σ := Int) (β := (Unit ⊕ Bool)) (fun s => S_spec_IsLexOrder_l2 F p0_g_Size p0_g_Rows p1_l s) F 1).bind (fun b => (match b with | .inl o => S_spec_IsLexOrder_j1 F | .inr o => some o))))

def S_slices_Index_int_j1 (F : Nat) : Option (Int) :=
  some (-1)

def S_slices_Index_int_l2 (F : Nat) (p0_s : List Int) (p1_v : Int) (x33 : Int) : Option ((Int) ⊕ (Unit ⊕ Int)) :=
  (if (decide (x33 < (p0_s.length : Int))) = true then ((idxL p0_s x33).bind fun x58 => (if (p1_v == x58) = true then some (Sum.inr (Sum.inr x33)) else some (Sum.inl (IntKind.i64.wrap (x33 + 1))))) else some (Sum.inr (Sum.inl ())))

def S_slices_Index_int (F : Nat) (p0_s : List Int) (p1_v : Int) : Option (Int) :=
  (loopN (σ := Int) (β := (Unit ⊕ Int)) (fun s => S_slices_Index_int_l2 F p0_s p1_v s) F 0).bind (fun b => (match b with | .inl o => S_slices_Index_int_j1 F | .inr o => some o))

def S_slices_Contains_int (F : Nat) (p0_s : List Int) (p1_v : Int) : Option (Bool) :=
  ((S_slices_Index_int F p0_s p1_v).bind fun r4 => some (decide ((0 : Int) ≤ r4)))

def S_impl_areVertices_j1 (F : Nat) (p0_g_Size : Int) (p0_g_Rows : List Int) : Option (Bool) :=
  ((S_impl_IsGraph F p0_g_Size p0_g_Rows).bind fun r63 => some r63)

def S_impl_areVertices_j3 (F : Nat) (x65 : Int) (p115 : Bool) : Option ((Int) ⊕ (Unit ⊕ Bool)) :=
  (if p115 = true then some (Sum.inr (Sum.inr false)) else some (Sum.inl (IntKind.i64.wrap (x65 + 1))))

def S_impl_areVertices_l2 (F : Nat) (p0_g_Size : Int) (p1_l : List Int) (x65 : Int) : Option ((Int) ⊕ (Unit ⊕ Bool)) :=
  (if (decide (x65 < (p1_l.length : Int))) = true then ((idxL p1_l x65).bind fun x110 => ((S_impl_within F x110 0 (IntKind.i64.wrap (p0_g_Size - 1))).bind fun r117 => (if (!r117) = true then S_impl_areVertices_j3 F x65 true else ((slO p1_l.length x65).bind fun _ => ((S_slices_Contains_int F (p1_l.take (x65.toNat)) x110).bind fun r119 => S_impl_areVertices_j3 F x65 r119))))) else some (Sum.inr (Sum.inl ())))

def S_impl_areVertices (F : Nat) (p0_g_Size : Int) (p0_g_Rows : List Int) (p1_l : List Int) : Option (Bool) :=
  (loopN (σ := Int) (β := (Unit ⊕ Bool)) (fun s => S_impl_areVertices_l2 F p0_g_Size p1_l s) F 0).bind (fun b => (match b with | .inl o => S_impl_areVertices_j1 F p0_g_Size p0_g_Rows | .inr o => some o))

def S_impl_IsOrder_j1 (F : Nat) (p6 : Bool) : Option (Bool) :=
  some p6

def S_impl_IsOrder (F : Nat) (p0_g_Size : Int) (p0_g_Rows : List Int) (p1_l : List Int) : Option (Bool) :=
  ((S_impl_areVertices F p0_g_Size p0_g_Rows p1_l).bind fun r7 => (if r7 = true then S_impl_IsOrder_j1 F ((p1_l.length : Int) == p0_g_Size) else S_impl_IsOrder_j1 F false))

def S_impl_label_j1 (F : Nat) (x31 : Int) : Option (Int) :=
  some x31

def S_impl_label_l2 (F : Nat) (p0_g_Rows : List Int) (p1_v : Int) (p2_order : List Int) (x34 : Int) (x35 : Int) : Option ((Int × Int) ⊕ (Int)) :=
  (if (decide (x35 < (p2_order.length : Int))) = true then ((idxL p2_order x35).bind fun x56 => ((idxL p0_g_Rows p1_v).bind fun x57 => ((nnO x56).bind fun _ => some (Sum.inl ((IntKind.i64.wrap ((IntKind.i64.wrap (2 * x34)) + (bAnd (shR x57 x56) 1))), (IntKind.i64.wrap (x35 + 1))))))) else some (Sum.inr x34))

def S_impl_label (F : Nat) (p0_g_Size : Int) (p0_g_Rows : List Int) (p1_v : Int) (p2_order : List Int) : Option (Int) :=
  (loopN (σ := (Int × Int)) (β := Int) (fun s => S_impl_label_l2 F p0_g_Rows p1_v p2_order s.1 s.2) F (0, 0)).bind (fun b => S_impl_label_j1 F b)

def S_impl_IsLexOrder_j1 (F : Nat) : Option (Bool) :=
  some true

def S_impl_IsLexOrder_j3 (F : Nat) (x306 : Int) : Option ((Int) ⊕ (Unit ⊕ Bool)) :=
  some (Sum.inl (IntKind.i64.wrap (x306 + 1)))

def S_impl_IsLexOrder_l4 (F : Nat) (p0_g_Size : Int) (p0_g_Rows : List Int) (p1_l : List Int) (x306 : Int) (x528 : Int) : Option ((Int) ⊕ (Unit ⊕ Bool)) :=
  (if (decide (x528 < ((p1_l.drop ((IntKind.i64.wrap (x306 + 1)).toNat)).length : Int))) = true then ((idxL (p1_l.drop ((IntKind.i64.wrap (x306 + 1)).toNat)) x528).bind fun x582 => ((slO p1_l.length x306).bind fun _ => ((idxL p1_l x306).bind fun x590 => ((slO p1_l.length x306).bind fun _ => ((S_impl_label F p0_g_Size p0_g_Rows x582 (p1_l.take (x306.toNat))).bind fun r592 => ((S_impl_label F p0_g_Size p0_g_Rows x590 (p1_l.take (x306.toNat))).bind fun r593 => (if (decide (r593 < r592)) = true then some (Sum.inr (Sum.inr false)) else some (Sum.inl (IntKind.i64.wrap (x528 + 1)))))))))) else some (Sum.inr (Sum.inl ())))

def S_impl_IsLexOrder_l2 (F : Nat) (p0_g_Size : Int) (p0_g_Rows : List Int) (p1_l : List Int) (x306 : Int) : Option ((Int) ⊕ (Unit ⊕ Bool)) :=
  (if (decide (x306 < (p1_l.length : Int))) = true then ((slO p1_l.length (IntKind.i64.wrap (x306 + 1))).bind fun _ => (loopN (σ := Int) (β := (Unit ⊕ Bool)) (fun s => S_impl_IsLexOrder_l4 F p0_g_Size p0_g_Rows p1_l x306 s) F 0).bind (fun b => (match b with | .inl o => S_impl_IsLexOrder_j3 F x306 | .inr o => some (Sum.inr (Sum.inr o))))) else some (Sum.inr (Sum.inl ())))

def S_impl_IsLexOrder (F : Nat) (p0_g_Size : Int) (p0_g_Rows : List Int) (p1_l : List Int) : Option (Bool) :=
  ((S_impl_IsOrder F p0_g_Size p0_g_Rows p1_l).bind fun r11 => (if (!r11) = true then some false else (loopN (σ := Int) (β := (Unit ⊕ Bool)) (fun s => S_impl_IsLexOrder_l2 F p0_g_Size p0_g_Rows p1_l s) F 1).bind (fun b => (match b with | .inl o => S_impl_IsLexOrder_j1 F | .inr o => some o))))

def S_laws_FnExactIsLexOrder (F : Nat) (p0_aG_Size : Int) (p0_aG_Rows : List Int) (p1_aL : List Int) : Option (Bool) :=
  (if (decide ((1048576 : Int) < (p1_aL.length : Int))) = true then some true else ((S_laws_szGraph F p0_aG_Size p0_aG_Rows 1048576).bind fun r12 => (if (decide (r12 < 0)) = true then some true else ((S_laws_toGraph F p0_aG_Size p0_aG_Rows).bind fun r24 => ((S_laws_toIntS F p1_aL).bind fun r26 => ((S_spec_IsLexOrder F r24.1 r24.2 r26).bind fun r28 => ((S_laws_toGraph F p0_aG_Size p0_aG_Rows).bind fun r33 => ((S_laws_toIntS F p1_aL).bind fun r39 => ((S_impl_IsLexOrder F r33.1 r33.2 r39).bind fun r43 => (if (r43 != r28) = true then some false else ((S_laws_toGraph F p0_aG_Size p0_aG_Rows).bind fun r62 => ((S_laws_eqGraph F r33.1 r33.2 r62.1 r62.2).bind fun r64 => (if (!r64) = true then some false else ((S_laws_toIntS F p1_aL).bind fun r79 => ((S_laws_eqIntS F r39 r79).bind fun r81 => (if (!r81) = true then some false else some true))))))))))))))))

def S_spec_l3Fine (F : Nat) (p0_set : Int) : Option (Bool) :=
  ((S_spec_l1In F p0_set 0 127).bind fun r4 => some r4)

def S_spec_ListOf_j1 (F : Nat) (l47 : List Int) : Option ((List (Int))) :=
  some l47

def S_spec_ListOf_j4 (F : Nat) (x52 : Int) (l84 : List Int) : Option (((List Int) × Int) ⊕ (((List Int)))) :=
  some (Sum.inl (l84, (IntKind.i64.wrap (x52 + 1))))

def S_spec_ListOf_j3 (F : Nat) (p0_set : Int) (l51 : List Int) (x52 : Int) (p78 : Bool) : Option (((List Int) × Int) ⊕ (((List Int)))) :=
  (if p78 = true then ((nnO x52).bind fun _ => (if ((bAnd (shR p0_set x52) 1) == 1) = true then ((catO l51.length ([x52] : List (Int)).length).bind fun _ => S_spec_ListOf_j4 F x52 (l51 ++ ([x52] : List (Int)))) else S_spec_ListOf_j4 F x52 l51)) else some (Sum.inr l51))

def S_spec_ListOf_l2 (F : Nat) (p0_set : Int) (l51 : List Int) (x52 : Int) : Option (((List Int) × Int) ⊕ (((List Int)))) :=
  (if (decide (x52 < 7)) = true then ((S_spec_l3Fine F p0_set).bind fun r88 => S_spec_ListOf_j3 F p0_set l51 x52 r88) else S_spec_ListOf_j3 F p0_set l51 x52 false)

def S_spec_ListOf (F : Nat) (p0_set : Int) : Option ((List (Int))) :=
  (loopN (σ := ((List Int) × Int)) (β := (((List Int)))) (fun s => S_spec_ListOf_l2 F p0_set s.1 s.2) F (([] : List (Int)), 0)).bind (fun b => S_spec_ListOf_j1 F b)

def S_spec_AroundSet_j1 (F : Nat) (x36 : Int) : Option (Int) :=
  some x36

def S_spec_AroundSet_j3 (F : Nat) (x40 : Int) (x56 : Int) : Option ((Int × Int) ⊕ (Int)) :=
  some (Sum.inl (x56, (IntKind.i64.wrap (x40 + 1))))

def S_spec_AroundSet_l2 (F : Nat) (p0_g_Size : Int) (p0_g_Rows : List Int) (p1_set : Int) (x39 : Int) (x40 : Int) : Option ((Int × Int) ⊕ (Int)) :=
  (if (decide (x40 < p0_g_Size)) = true then ((nnO x40).bind fun _ => (if ((bAnd (shR p1_set x40) 1) == 1) = true then ((idxL p0_g_Rows x40).bind fun x58 => S_spec_AroundSet_j3 F x40 (bOr x39 x58)) else S_spec_AroundSet_j3 F x40 x39)) else some (Sum.inr x39))

def S_spec_AroundSet (F : Nat) (p0_g_Size : Int) (p0_g_Rows : List Int) (p1_set : Int) : Option (Int) :=
  ((S_spec_IsSet F p0_g_Size p0_g_Rows p1_set).bind fun r11 => (if (!r11) = true then some 0 else (loopN (σ := (Int × Int)) (β := Int) (fun s => S_spec_AroundSet_l2 F p0_g_Size p0_g_Rows p1_set s.1 s.2) F (p1_set, 0)).bind (fun b => S_spec_AroundSet_j1 F b)))

def S_spec_l3Grow_j1 (F : Nat) (x21 : Int) : Option (Int) :=
  some x21

def S_spec_l3Grow_l2 (F : Nat) (p0_g_Size : Int) (p0_g_Rows : List Int) (p2_set : Int) (x24 : Int) (x25 : Int) : Option ((Int × Int) ⊕ (Int)) :=
  (if (decide (x25 < p0_g_Size)) = true then ((S_spec_AroundSet F p0_g_Size p0_g_Rows x24).bind fun r37 => some (Sum.inl ((bAnd r37 p2_set), (IntKind.i64.wrap (x25 + 1))))) else some (Sum.inr x24))

def S_spec_l3Grow (F : Nat) (p0_g_Size : Int) (p0_g_Rows : List Int) (p1_from : Int) (p2_set : Int) : Option (Int) :=
  (loopN (σ := (Int × Int)) (β := Int) (fun s => S_spec_l3Grow_l2 F p0_g_Size p0_g_Rows p2_set s.1 s.2) F (p1_from, 0)).bind (fun b => S_spec_l3Grow_j1 F b)

def S_spec_PartsOf_j1 (F : Nat) (l61 : List Int) : Option ((List (Int))) :=
  some l61

def S_spec_PartsOf_j3 (F : Nat) (p0_g_Size : Int) (p0_g_Rows : List Int) (p1_set : Int) (l64 : List Int) (x65 : Int) (p97 : Bool) : Option (((List Int) × Int) ⊕ (((List Int)))) :=
  (if p97 = true then ((S_spec_ListOf F x65).bind fun r102 => ((idxL r102 0).bind fun x104 => ((nnO x104).bind fun _ => ((S_spec_l3Grow F p0_g_Size p0_g_Rows (shL 1 x104) p1_set).bind fun r107 => ((catO l64.length ([r107] : List (Int)).length).bind fun _ => some (Sum.inl ((l64 ++ ([r107] : List (Int))), (IntKind.i64.wrap (x65 - r107))))))))) else some (Sum.inr l64))

def S_spec_PartsOf_l2 (F : Nat) (p0_g_Size : Int) (p0_g_Rows : List Int) (p1_set : Int) (l64 : List Int) (x65 : Int) : Option (((List Int) × Int) ⊕ (((List Int)))) :=
  (if (decide ((0 : Int) < x65)) = true then ((S_spec_IsSet F p0_g_Size p0_g_Rows p1_set).bind fun r113 => S_spec_PartsOf_j3 F p0_g_Size p0_g_Rows p1_set l64 x65 r113) else S_spec_PartsOf_j3 F p0_g_Size p0_g_Rows p1_set l64 x65 false)

def S_spec_PartsOf (F : Nat) (p0_g_Size : Int) (p0_g_Rows : List Int) (p1_set : Int) : Option ((List (Int))) :=
  (loopN (σ := ((List Int) × Int)) (β := (((List Int)))) (fun s => S_spec_PartsOf_l2 F p0_g_Size p0_g_Rows p1_set s.1 s.2) F (([] : List (Int)), p1_set)).bind (fun b => S_spec_PartsOf_j1 F b)

def S_spec_IsConnected_j1 (F : Nat) (p8 : Bool) : Option (Bool) :=
  some p8

def S_spec_IsConnected (F : Nat) (p0_g_Size : Int) (p0_g_Rows : List Int) : Option (Bool) :=
  ((S_spec_IsGraph F p0_g_Size p0_g_Rows).bind fun r9 => (if r9 = true then ((nnO p0_g_Size).bind fun _ => ((S_spec_PartsOf F p0_g_Size p0_g_Rows (IntKind.i64.wrap ((shL 1 p0_g_Size) - 1))).bind fun r10 => S_spec_IsConnected_j1 F ((r10.length : Int) == 1))) else S_spec_IsConnected_j1 F false))

def S_impl_neighbors_j1 (F : Nat) (x35 : Int) : Option (Int) :=
  some x35

def S_impl_neighbors_l2 (F : Nat) (p0_g_Rows : List Int) (r40 : (List (Int))) (x42 : Int) (x43 : Int) : Option ((Int × Int) ⊕ (Int)) :=
  (if (decide (x43 < (r40.length : Int))) = true then ((idxL r40 x43).bind fun x64 => ((idxL p0_g_Rows x64).bind fun x65 => some (Sum.inl ((bOr x42 x65), (IntKind.i64.wrap (x43 + 1)))))) else some (Sum.inr x42))

def S_impl_neighbors (F : Nat) (p0_g_Size : Int) (p0_g_Rows : List Int) (p1_set : Int) : Option (Int) :=
  ((S_impl_ListOf F p1_set).bind fun r40 => (loopN (σ := (Int × Int)) (β := Int) (fun s => S_impl_neighbors_l2 F p0_g_Rows r40 s.1 s.2) F (0, 0)).bind (fun b => S_impl_neighbors_j1 F b))

def S_impl_partOf_l1 (F : Nat) (p0_g_Size : Int) (p0_g_Rows : List Int) (p1_set : Int) (x4 : Int) : Option ((Int) ⊕ (Int)) :=
  ((S_impl_neighbors F p0_g_Size p0_g_Rows x4).bind fun r15 => (if ((bAnd (bOr x4 r15) p1_set) == x4) = true then some (Sum.inr x4) else some (Sum.inl (bAnd (bOr x4 r15) p1_set))))

def S_impl_partOf (F : Nat) (p0_g_Size : Int) (p0_g_Rows : List Int) (p1_set : Int) (p2_from : Int) : Option (Int) :=
  (loopN (σ := Int) (β := Int) (fun s => S_impl_partOf_l1 F p0_g_Size p0_g_Rows p1_set s) F p2_from).bind (fun b => some b)

def S_impl_parts_j1 (F : Nat) (l34 : List Int) : Option ((List (Int))) :=
  some l34

def S_impl_parts_l2 (F : Nat) (p0_g_Size : Int) (p0_g_Rows : List Int) (x36 : Int) (l38 : List Int) : Option ((Int × (List Int)) ⊕ (((List Int)))) :=
  (if (x36 != 0) = true then ((S_impl_partOf F p0_g_Size p0_g_Rows x36 (bAnd x36 (IntKind.i64.wrap (0 - x36)))).bind fun r55 => ((catO l38.length ([r55] : List (Int)).length).bind fun _ => some (Sum.inl ((bAndNot x36 r55), (l38 ++ ([r55] : List (Int))))))) else some (Sum.inr l38))

def S_impl_parts (F : Nat) (p0_g_Size : Int) (p0_g_Rows : List Int) (p1_set : Int) : Option ((List (Int))) :=
  (loopN (σ := (Int × (List Int))) (β := (((List Int)))) (fun s => S_impl_parts_l2 F p0_g_Size p0_g_Rows s.1 s.2) F (p1_set, ([] : List (Int)))).bind (fun b => S_impl_parts_j1 F b)

def S_impl_all (F : Nat) (p0_g_Size : Int) (p0_g_Rows : List Int) : Option (Int) :=
  ((nnO p0_g_Size).bind fun _ => some (IntKind.i64.wrap ((shL 1 p0_g_Size) - 1)))

def S_impl_IsConnected_j1 (F : Nat) (p9 : Bool) : Option (Bool) :=
  some p9

def S_impl_IsConnected (F : Nat) (p0_g_Size : Int) (p0_g_Rows : List Int) : Option (Bool) :=
  ((S_impl_IsGraph F p0_g_Size p0_g_Rows).bind fun r10 => (if r10 = true then ((S_impl_all F p0_g_Size p0_g_Rows).bind fun r11 => ((S_impl_parts F p0_g_Size p0_g_Rows r11).bind fun r12 => S_impl_IsConnected_j1 F ((r12.length : Int) == 1))) else S_impl_IsConnected_j1 F false))

def S_laws_FnExactIsConnected (F : Nat) (p0_aG_Size : Int) (p0_aG_Rows : List Int) : Option (Bool) :=
  ((S_laws_szGraph F p0_aG_Size p0_aG_Rows 1048576).bind fun r7 => (if (decide (r7 < 0)) = true then some true else ((S_laws_toGraph F p0_aG_Size p0_aG_Rows).bind fun r17 => ((S_spec_IsConnected F r17.1 r17.2).bind fun r19 => ((S_laws_toGraph F p0_aG_Size p0_aG_Rows).bind fun r24 => ((S_impl_IsConnected F r24.1 r24.2).bind fun r29 => (if (r29 != r19) = true then some false else ((S_laws_toGraph F p0_aG_Size p0_aG_Rows).bind fun r48 => ((S_laws_eqGraph F r24.1 r24.2 r48.1 r48.2).bind fun r50 => (if (!r50) = true then some false else some true))))))))))

def S_spec_BreadthOrder_j2 (F : Nat) (l295 : List Int) : Option ((List (Int)) × Bool) :=
  some (l295, true)

def S_spec_BreadthOrder_j4 (F : Nat) (x301 : Int) (l503 : List Int) (x504 : Int) : Option (((List Int) × Int × Int) ⊕ (((List Int)))) :=
  some (Sum.inl (l503, x504, (IntKind.i64.wrap (x301 + 1))))

def S_spec_BreadthOrder_j6 (F : Nat) (x509 : Int) (l555 : List Int) (x556 : Int) : Option (((List Int) × Int × Int) ⊕ (((List Int) × Int))) :=
  some (Sum.inl (l555, x556, (IntKind.i64.wrap (x509 + 1))))

def S_spec_BreadthOrder_j7 (F : Nat) (l507 : List Int) (x508 : Int) (x509 : Int) (p560 : Bool) : Option (((List Int) × Int × Int) ⊕ (((List Int) × Int))) :=
  (if p560 = true then ((catO l507.length ([x509] : List (Int)).length).bind fun _ => ((nnO x509).bind fun _ => S_spec_BreadthOrder_j6 F x509 (l507 ++ ([x509] : List (Int))) (IntKind.i64.wrap (x508 + (shL 1 x509))))) else S_spec_BreadthOrder_j6 F x509 l507 x508)

def S_spec_BreadthOrder_l5 (F : Nat) (p0_g_Size : Int) (p0_g_Rows : List Int) (x301 : Int) (l507 : List Int) (x508 : Int) (x509 : Int) : Option (((List Int) × Int × Int) ⊕ (((List Int) × Int))) :=
  (if (decide (x509 < p0_g_Size)) = true then ((nnO x509).bind fun _ => (if ((bAnd (shR x508 x509) 1) == 0) = true then ((idxL l507 x301).bind fun x566 => ((S_spec_l2Edge F p0_g_Size p0_g_Rows x566 x509).bind fun r567 => S_spec_BreadthOrder_j7 F l507 x508 x509 r567)) else S_spec_BreadthOrder_j7 F l507 x508 x509 false)) else some (Sum.inr (l507, x508)))

def S_spec_BreadthOrder_l3 (F : Nat) (p0_g_Size : Int) (p0_g_Rows : List Int) (l299 : List Int) (x300 : Int) (x301 : Int) : Option (((List Int) × Int × Int) ⊕ (((List Int)))) :=
  (if (decide (x301 < (l299.length : Int))) = true then (loopN (σ := ((List Int) × Int × Int)) (β := (((List Int) × Int))) (fun s => S_spec_BreadthOrder_l5 F p0_g_Size p0_g_Rows x301 s.1 s.2.1 s.2.2) F (l299, x300, 0)).bind (fun b => S_spec_BreadthOrder_j4 F x301 b.1 b.2) else some (Sum.inr l299))

def S_spec_BreadthOrder_j1 (F : Nat) (p0_g_Size : Int) (p0_g_Rows : List Int) (p1_start : Int) (p14 : Bool) : Option ((List (Int)) × Bool) :=
  (if p14 = true then some (([] : List (Int)), false) else ((nnO p1_start).bind fun _ => (loopN (σ := ((List Int) × Int × Int)) (β := (((List Int)))) (fun s => S_spec_BreadthOrder_l3 F p0_g_Size p0_g_Rows s.1 s.2.1 s.2.2) F (([p1_start] : List (Int)), (shL 1 p1_start), 0)).bind (fun b => S_spec_BreadthOrder_j2 F b)))

def S_spec_BreadthOrder (F : Nat) (p0_g_Size : Int) (p0_g_Rows : List Int) (p1_start : Int) : Option ((List (Int)) × Bool) :=
  ((S_spec_IsGraph F p0_g_Size p0_g_Rows).bind fun r568 => (if (!r568) = true then S_spec_BreadthOrder_j1 F p0_g_Size p0_g_Rows p1_start true else (if (decide (p1_start < 0)) = true then S_spec_BreadthOrder_j1 F p0_g_Size p0_g_Rows p1_start true else S_spec_BreadthOrder_j1 F p0_g_Size p0_g_Rows p1_start (decide (p0_g_Size ≤ p1_start)))))

def S_impl_isVertex_j1 (F : Nat) (p0_g_Size : Int) (p0_g_Rows : List Int) : Option (Bool) :=
  ((S_impl_IsGraph F p0_g_Size p0_g_Rows).bind fun r43 => some r43)

def S_impl_isVertex_l2 (F : Nat) (p0_g_Size : Int) (p1_vertices : List Int) (x45 : Int) : Option ((Int) ⊕ (Unit ⊕ Bool)) :=
  (if (decide (x45 < (p1_vertices.length : Int))) = true then ((idxL p1_vertices x45).bind fun x75 => ((S_impl_within F x75 0 (IntKind.i64.wrap (p0_g_Size - 1))).bind fun r78 => (if (!r78) = true then some (Sum.inr (Sum.inr false)) else some (Sum.inl (IntKind.i64.wrap (x45 + 1)))))) else some (Sum.inr (Sum.inl ())))

def S_impl_isVertex (F : Nat) (p0_g_Size : Int) (p0_g_Rows : List Int) (p1_vertices : List Int) : Option (Bool) :=
  (loopN (σ := Int) (β := (Unit ⊕ Bool)) (fun s => S_impl_isVertex_l2 F p0_g_Size p1_vertices s) F 0).bind (fun b => (match b with | .inl o => S_impl_isVertex_j1 F p0_g_Size p0_g_Rows | .inr o => some o))

def S_impl_BreadthOrder_j1 (F : Nat) (l254 : List Int) : Option ((List (Int)) × Bool) :=
  some (l254, true)

def S_impl_BreadthOrder_j3 (F : Nat) (x259 : Int) (l433 : List Int) : Option (((List Int) × Int) ⊕ (((List Int)))) :=
  some (Sum.inl (l433, (IntKind.i64.wrap (x259 + 1))))

def S_impl_BreadthOrder_j5 (F : Nat) (x445 : Int) (l479 : List Int) : Option (((List Int) × Int) ⊕ (((List Int)))) :=
  some (Sum.inl (l479, (IntKind.i64.wrap (x445 + 1))))

def S_impl_BreadthOrder_l4 (F : Nat) (r441 : (List (Int))) (l444 : List Int) (x445 : Int) : Option (((List Int) × Int) ⊕ (((List Int)))) :=
  (if (decide (x445 < (r441.length : Int))) = true then ((idxL r441 x445).bind fun x482 => ((S_slices_Contains_int F l444 x482).bind fun r485 => (if (!r485) = true then ((catO l444.length ([x482] : List (Int)).length).bind fun _ => S_impl_BreadthOrder_j5 F x445 (l444 ++ ([x482] : List (Int)))) else S_impl_BreadthOrder_j5 F x445 l444))) else some (Sum.inr l444))

def S_impl_BreadthOrder_l2 (F : Nat) (p0_g_Rows : List Int) (l258 : List Int) (x259 : Int) : Option (((List Int) × Int) ⊕ (((List Int)))) :=
  (if (decide (x259 < (l258.length : Int))) = true then ((idxL l258 x259).bind fun x439 => ((idxL p0_g_Rows x439).bind fun x440 => ((S_impl_ListOf F x440).bind fun r441 => (loopN (σ := ((List Int) × Int)) (β := (((List Int)))) (fun s => S_impl_BreadthOrder_l4 F r441 s.1 s.2) F (l258, 0)).bind (fun b => S_impl_BreadthOrder_j3 F x259 b)))) else some (Sum.inr l258))

def S_impl_BreadthOrder (F : Nat) (p0_g_Size : Int) (p0_g_Rows : List Int) (p1_start : Int) : Option ((List (Int)) × Bool) :=
  ((S_impl_isVertex F p0_g_Size p0_g_Rows ([p1_start] : List (Int))).bind fun r15 => (if (!r15) = true then some (([] : List (Int)), false) else (loopN (σ := ((List Int) × Int)) (β := (((List Int)))) (fun s => S_impl_BreadthOrder_l2 F p0_g_Rows s.1 s.2) F (([p1_start] : List (Int)), 0)).bind (fun b => S_impl_BreadthOrder_j1 F b)))

def S_laws_FnExactBreadthOrder_j3 (F : Nat) (r78 : Int × (List (Int))) (p110 : Bool) : Option (Bool) :=
  (if p110 = true then some false else ((S_laws_heldIntS F r78.2 1).bind fun r115 => (if (decide (r115 < 0)) = true then some false else (if (r115 != r78.1) = true then some false else some true))))

def S_laws_FnExactBreadthOrder_j2 (F : Nat) (p0_aG_Size : Int) (p0_aG_Rows : List Int) (p1_aStart : Int) (r20 : (List (Int)) × Bool) (r32 : (List (Int)) × Bool) (p73 : Bool) : Option (Bool) :=
  (if p73 = true then some false else ((S_laws_markIntS F r32.1 1).bind fun r78 => ((S_laws_heldIntS F r78.2 1).bind fun r82 => (if (decide (r82 < 0)) = true then some false else (if (r82 != r78.1) = true then some false else ((S_laws_toGraph F p0_aG_Size p0_aG_Rows).bind fun r98 => ((S_impl_BreadthOrder F r98.1 r98.2 p1_aStart).bind fun r100 => ((S_laws_eqIntS F r100.1 r20.1).bind fun r127 => (if (!r127) = true then S_laws_FnExactBreadthOrder_j3 F r78 true else S_laws_FnExactBreadthOrder_j3 F r78 (r100.2 != r20.2))))))))))

def S_laws_FnExactBreadthOrder_j1 (F : Nat) (p0_aG_Size : Int) (p0_aG_Rows : List Int) (p1_aStart : Int) (r20 : (List (Int)) × Bool) (r26 : Int × (List (Int))) (r32 : (List (Int)) × Bool) (p42 : Bool) : Option (Bool) :=
  (if p42 = true then some false else ((S_laws_toGraph F p0_aG_Size p0_aG_Rows).bind fun r57 => ((S_laws_eqGraph F r26.1 r26.2 r57.1 r57.2).bind fun r59 => (if (!r59) = true then some false else ((S_laws_markGraph F r26.1 r26.2 1).bind fun r64 => (if (decide (r64.1 < 0)) = true then S_laws_FnExactBreadthOrder_j2 F p0_aG_Size p0_aG_Rows p1_aStart r20 r32 true else ((S_laws_eqIntS F r32.1 r20.1).bind fun r128 => (if (!r128) = true then S_laws_FnExactBreadthOrder_j2 F p0_aG_Size p0_aG_Rows p1_aStart r20 r32 true else S_laws_FnExactBreadthOrder_j2 F p0_aG_Size p0_aG_Rows p1_aStart r20 r32 (r32.2 != r20.2)))))))))

def S_laws_FnExactBreadthOrder (F : Nat) (p0_aG_Size : Int) (p0_aG_Rows : List Int) (p1_aStart : Int) : Option (Bool) :=
  ((S_laws_szGraph F p0_aG_Size p0_aG_Rows 1048576).bind fun r7 => (if (decide (r7 < 0)) = true then some true else ((S_laws_toGraph F p0_aG_Size p0_aG_Rows).bind fun r18 => ((S_spec_BreadthOrder F r18.1 r18.2 p1_aStart).bind fun r20 => ((S_laws_toGraph F p0_aG_Size p0_aG_Rows).bind fun r26 => ((S_impl_BreadthOrder F r26.1 r26.2 p1_aStart).bind fun r32 => ((S_laws_eqIntS F r32.1 r20.1).bind fun r129 => (if (!r129) = true then S_laws_FnExactBreadthOrder_j1 F p0_aG_Size p0_aG_Rows p1_aStart r20 r26 r32 true else S_laws_FnExactBreadthOrder_j1 F p0_aG_Size p0_aG_Rows p1_aStart r20 r26 r32 (r32.2 != r20.2)))))))))

def S_spec_EliminationOf_j1 (F : Nat) (l178 : List Int) : Option ((List (Int)) × Bool) :=
  some (l178, true)

def S_spec_EliminationOf_j3 (F : Nat) (l181 : List Int) (x182 : Int) (x295 : Int) : Option (((List Int) × Int) ⊕ (((List Int)) ⊕ ((List (Int)) × Bool))) :=
  (if (decide (x295 < 0)) = true then some (Sum.inr (Sum.inr (([] : List (Int)), false))) else ((catO l181.length ([x295] : List (Int)).length).bind fun _ => ((nnO x295).bind fun _ => some (Sum.inl ((l181 ++ ([x295] : List (Int))), (IntKind.i64.wrap (x182 - (shL 1 x295))))))))

def S_spec_EliminationOf_j5 (F : Nat) (x312 : Int) (x334 : Int) : Option ((Int × Int) ⊕ (Int)) :=
  some (Sum.inl (x334, (IntKind.i64.wrap (x312 - 1))))

def S_spec_EliminationOf_j6 (F : Nat) (x311 : Int) (x312 : Int) (p337 : Bool) : Option ((Int × Int) ⊕ (Int)) :=
  (if p337 = true then S_spec_EliminationOf_j5 F x312 x312 else S_spec_EliminationOf_j5 F x312 x311)

def S_spec_EliminationOf_l4 (F : Nat) (p0_g_Size : Int) (p0_g_Rows : List Int) (x182 : Int) (x311 : Int) (x312 : Int) : Option ((Int × Int) ⊕ (Int)) :=
  (if (decide ((0 : Int) ≤ x312)) = true then ((nnO x312).bind fun _ => (if ((bAnd (shR x182 x312) 1) == 1) = true then ((S_spec_l6Simplicial F p0_g_Size p0_g_Rows x312 x182).bind fun r338 => S_spec_EliminationOf_j6 F x311 x312 r338) else S_spec_EliminationOf_j6 F x311 x312 false)) else some (Sum.inr x311))

def S_spec_EliminationOf_l2 (F : Nat) (p0_g_Size : Int) (p0_g_Rows : List Int) (l181 : List Int) (x182 : Int) : Option (((List Int) × Int) ⊕ (((List Int)) ⊕ ((List (Int)) × Bool))) :=
  (if (decide ((0 : Int) < x182)) = true then (loopN (σ := (Int × Int)) (β := Int) (fun s => S_spec_EliminationOf_l4 F p0_g_Size p0_g_Rows x182 s.1 s.2) F ((-1), (IntKind.i64.wrap (p0_g_Size - 1)))).bind (fun b => S_spec_EliminationOf_j3 F l181 x182 b) else some (Sum.inr (Sum.inl l181)))

def S_spec_EliminationOf (F : Nat) (p0_g_Size : Int) (p0_g_Rows : List Int) : Option ((List (Int)) × Bool) :=
  ((S_spec_IsGraph F p0_g_Size p0_g_Rows).bind fun r14 => (if (!r14) = true then some (([] : List (Int)), false) else ((nnO p0_g_Size).bind fun _ => (loopN (σ := ((List Int) × Int)) (β := (((List Int)) ⊕ ((List (Int)) × Bool))) (fun s => S_spec_EliminationOf_l2 F p0_g_Size p0_g_Rows s.1 s.2) F (([] : List (Int)), (IntKind.i64.wrap ((shL 1 p0_g_Size) - 1)))).bind (fun b => (match b with | .inl o => S_spec_EliminationOf_j1 F o | .inr o => some o)))))

def S_spec_IsChordal (F : Nat) (p0_g_Size : Int) (p0_g_Rows : List Int) : Option (Bool) :=
  ((S_spec_EliminationOf F p0_g_Size p0_g_Rows).bind fun r7 => some r7.2)

def S_impl_EliminationOf_c1 (F : Nat) (p0_v : Int) (q0_Size : Int) (q0_Rows : List Int) (q1_v : Int) : Option (Bool) :=
  ((idxL q0_Rows p0_v).bind fun x5 => ((S_impl_isClique F q0_Size q0_Rows (bAnd x5 q1_v)).bind fun r6 => some r6))

def S_slices_IndexFunc_int__EliminationOfc1_j1 (F : Nat) : Option (Int) :=
  some (-1)

def S_slices_IndexFunc_int__EliminationOfc1_l2 (F : Nat) (p0_s : List Int) (p1_f_c0_Size : Int) (p1_f_c0_Rows : List Int) (p1_f_c1_v : Int) (x41 : Int) : Option ((Int) ⊕ (Unit ⊕ Int)) :=
  (if (decide (x41 < (p0_s.length : Int))) = true then ((idxL p0_s x41).bind fun x73 => ((S_impl_EliminationOf_c1 F x73 p1_f_c0_Size p1_f_c0_Rows p1_f_c1_v).bind fun r74 => (if r74 = true then some (Sum.inr (Sum.inr x41)) else some (Sum.inl (IntKind.i64.wrap (x41 + 1)))))) else some (Sum.inr (Sum.inl ())))

def S_slices_IndexFunc_int__EliminationOfc1 (F : Nat) (p0_s : List Int) (p1_f_c0_Size : Int) (p1_f_c0_Rows : List Int) (p1_f_c1_v : Int) : Option (Int) :=
  (loopN (σ := Int) (β := (Unit ⊕ Int)) (fun s => S_slices_IndexFunc_int__EliminationOfc1_l2 F p0_s p1_f_c0_Size p1_f_c0_Rows p1_f_c1_v s) F 0).bind (fun b => (match b with | .inl o => S_slices_IndexFunc_int__EliminationOfc1_j1 F | .inr o => some o))

def S_impl_EliminationOf_j1 (F : Nat) (l99 : List Int) : Option ((List (Int)) × Bool) :=
  some (l99, true)

def S_impl_EliminationOf_l2 (F : Nat) (p0_g_Size : Int) (p0_g_Rows : List Int) (l128 : List Int) (x129 : Int) : Option (((List Int) × Int) ⊕ (((List Int)) ⊕ ((List (Int)) × Bool))) :=
  (if (x129 != 0) = true then ((S_impl_ListOf F x129).bind fun r161 => ((S_slices_IndexFunc_int__EliminationOfc1 F r161 p0_g_Size p0_g_Rows x129).bind fun r163 => (if (decide (r163 < 0)) = true then some (Sum.inr (Sum.inr (([] : List (Int)), false))) else ((S_impl_ListOf F x129).bind fun r173 => ((idxL r173 r163).bind fun x175 => ((nnO x175).bind fun _ => ((catO l128.length ([x175] : List (Int)).length).bind fun _ => some (Sum.inl ((l128 ++ ([x175] : List (Int))), (bAndNot x129 (shL 1 x175))))))))))) else some (Sum.inr (Sum.inl l128)))

def S_impl_EliminationOf (F : Nat) (p0_g_Size : Int) (p0_g_Rows : List Int) : Option ((List (Int)) × Bool) :=
  ((S_impl_IsGraph F p0_g_Size p0_g_Rows).bind fun r11 => (if (!r11) = true then some (([] : List (Int)), false) else ((S_impl_all F p0_g_Size p0_g_Rows).bind fun r18 => (loopN (σ := ((List Int) × Int)) (β := (((List Int)) ⊕ ((List (Int)) × Bool))) (fun s => S_impl_EliminationOf_l2 F p0_g_Size p0_g_Rows s.1 s.2) F (([] : List (Int)), r18)).bind (fun b => (match b with | .inl o => S_impl_EliminationOf_j1 F o | .inr o => some o)))))

def S_impl_IsChordal (F : Nat) (p0_g_Size : Int) (p0_g_Rows : List Int) : Option (Bool) :=
  ((S_impl_EliminationOf F p0_g_Size p0_g_Rows).bind fun r7 => some r7.2)

def S_laws_FnExactIsChordal (F : Nat) (p0_aG_Size : Int) (p0_aG_Rows : List Int) : Option (Bool) :=
  ((S_laws_szGraph F p0_aG_Size p0_aG_Rows 1048576).bind fun r7 => (if (decide (r7 < 0)) = true then some true else ((S_laws_toGraph F p0_aG_Size p0_aG_Rows).bind fun r17 => ((S_spec_IsChordal F r17.1 r17.2).bind fun r19 => ((S_laws_toGraph F p0_aG_Size p0_aG_Rows).bind fun r24 => ((S_impl_IsChordal F r24.1 r24.2).bind fun r29 => (if (r29 != r19) = true then some false else ((S_laws_toGraph F p0_aG_Size p0_aG_Rows).bind fun r48 => ((S_laws_eqGraph F r24.1 r24.2 r48.1 r48.2).bind fun r50 => (if (!r50) = true then some false else some true))))))))))

def S_spec_InducedOn_j2 (F : Nat) (r19 : (List (Int))) (l565 : List Int) : Option (Int × (List (Int)) × Bool) :=
  some ((r19.length : Int), l565, true)

def S_spec_InducedOn_j4 (F : Nat) (l748 : List Int) (x749 : Int) (x1062 : Int) : Option (((List Int) × Int) ⊕ (((List Int)))) :=
  ((catO l748.length ([x1062] : List (Int)).length).bind fun _ => some (Sum.inl ((l748 ++ ([x1062] : List (Int))), (IntKind.i64.wrap (x749 + 1)))))

def S_spec_InducedOn_j6 (F : Nat) (x1067 : Int) (x1098 : Int) : Option ((Int × Int) ⊕ (Int)) :=
  some (Sum.inl (x1098, (IntKind.i64.wrap (x1067 + 1))))

def S_spec_InducedOn_l5 (F : Nat) (p0_g_Size : Int) (p0_g_Rows : List Int) (r19 : (List (Int))) (x749 : Int) (x1066 : Int) (x1067 : Int) : Option ((Int × Int) ⊕ (Int)) :=
  (if (decide (x1067 < (r19.length : Int))) = true then ((idxL r19 x749).bind fun x1103 => ((idxL r19 x1067).bind fun x1104 => ((S_spec_l2Edge F p0_g_Size p0_g_Rows x1103 x1104).bind fun r1105 => (if r1105 = true then ((nnO x1067).bind fun _ => S_spec_InducedOn_j6 F x1067 (IntKind.i64.wrap (x1066 + (shL 1 x1067)))) else S_spec_InducedOn_j6 F x1067 x1066)))) else some (Sum.inr x1066))

def S_spec_InducedOn_l3 (F : Nat) (p0_g_Size : Int) (p0_g_Rows : List Int) (r19 : (List (Int))) (l748 : List Int) (x749 : Int) : Option (((List Int) × Int) ⊕ (((List Int)))) :=
  (if (decide (x749 < (r19.length : Int))) = true then (loopN (σ := (Int × Int)) (β := Int) (fun s => S_spec_InducedOn_l5 F p0_g_Size p0_g_Rows r19 x749 s.1 s.2) F (0, 0)).bind (fun b => S_spec_InducedOn_j4 F l748 x749 b) else some (Sum.inr l748))

def S_spec_InducedOn_j1 (F : Nat) (p0_g_Size : Int) (p0_g_Rows : List Int) (p1_set : Int) (p14 : Bool) : Option (Int × (List (Int)) × Bool) :=
  (if p14 = true then some (0, ([] : List (Int)), false) else ((S_spec_ListOf F p1_set).bind fun r19 => (loopN (σ := ((List Int) × Int)) (β := (((List Int)))) (fun s => S_spec_InducedOn_l3 F p0_g_Size p0_g_Rows r19 s.1 s.2) F (([] : List (Int)), 0)).bind (fun b => S_spec_InducedOn_j2 F r19 b)))

def S_spec_InducedOn (F : Nat) (p0_g_Size : Int) (p0_g_Rows : List Int) (p1_set : Int) : Option (Int × (List (Int)) × Bool) :=
  ((S_spec_IsSet F p0_g_Size p0_g_Rows p1_set).bind fun r1106 => (if (!r1106) = true then S_spec_InducedOn_j1 F p0_g_Size p0_g_Rows p1_set true else S_spec_InducedOn_j1 F p0_g_Size p0_g_Rows p1_set (p1_set == 0)))

def S_impl_IsSet_j1 (F : Nat) (p8 : Bool) : Option (Bool) :=
  some p8

def S_impl_IsSet (F : Nat) (p0_g_Size : Int) (p0_g_Rows : List Int) (p1_set : Int) : Option (Bool) :=
  ((S_impl_IsGraph F p0_g_Size p0_g_Rows).bind fun r9 => (if r9 = true then ((S_impl_all F p0_g_Size p0_g_Rows).bind fun r10 => ((S_impl_within F p1_set 0 r10).bind fun r11 => S_impl_IsSet_j1 F r11)) else S_impl_IsSet_j1 F false))

def S_impl_induced_j1 (F : Nat) (r9 : (List (Int))) (l507 : List Int) : Option (Int × (List (Int))) :=
  some ((r9.length : Int), l507)

def S_impl_induced_j3 (F : Nat) (x674 : Int) (l919 : List Int) : Option (((List Int) × Int) ⊕ (((List Int)))) :=
  some (Sum.inl (l919, (IntKind.i64.wrap (x674 + 1))))

def S_impl_induced_j5 (F : Nat) (x950 : Int) (l988 : List Int) : Option (((List Int) × Int) ⊕ (((List Int)))) :=
  some (Sum.inl (l988, (IntKind.i64.wrap (x950 + 1))))

def S_impl_induced_l4 (F : Nat) (p0_g_Rows : List Int) (r9 : (List (Int))) (x674 : Int) (x922 : Int) (l949 : List Int) (x950 : Int) : Option (((List Int) × Int) ⊕ (((List Int)))) :=
  (if (decide (x950 < (r9.length : Int))) = true then ((idxL r9 x950).bind fun x991 => ((idxL p0_g_Rows x922).bind fun x995 => ((S_impl_has F x995 x991).bind fun r996 => (if r996 = true then ((idxL l949 x674).bind fun x997 => ((nnO x950).bind fun _ => ((idxL l949 x674).bind fun x998 => S_impl_induced_j5 F x950 (l949.set (x674.toNat) (bOr x997 (shL 1 x950)))))) else S_impl_induced_j5 F x950 l949)))) else some (Sum.inr l949))

def S_impl_induced_l2 (F : Nat) (p0_g_Rows : List Int) (r9 : (List (Int))) (l673 : List Int) (x674 : Int) : Option (((List Int) × Int) ⊕ (((List Int)))) :=
  (if (decide (x674 < (r9.length : Int))) = true then ((idxL r9 x674).bind fun x922 => (loopN (σ := ((List Int) × Int)) (β := (((List Int)))) (fun s => S_impl_induced_l4 F p0_g_Rows r9 x674 x922 s.1 s.2) F (l673, 0)).bind (fun b => S_impl_induced_j3 F x674 b)) else some (Sum.inr l673))

def S_impl_induced (F : Nat) (p0_g_Size : Int) (p0_g_Rows : List Int) (p1_set : Int) : Option (Int × (List (Int))) :=
  ((S_impl_ListOf F p1_set).bind fun r9 => ((mkO (r9.length : Int)).bind fun _ => (loopN (σ := ((List Int) × Int)) (β := (((List Int)))) (fun s => S_impl_induced_l2 F p0_g_Rows r9 s.1 s.2) F ((List.replicate (r9.length : Int).toNat (0 : Int)), 0)).bind (fun b => S_impl_induced_j1 F r9 b)))

def S_impl_InducedOn_j1 (F : Nat) (p0_g_Size : Int) (p0_g_Rows : List Int) (p1_set : Int) (p14 : Bool) : Option (Int × (List (Int)) × Bool) :=
  (if p14 = true then some (0, ([] : List (Int)), false) else ((S_impl_induced F p0_g_Size p0_g_Rows p1_set).bind fun r19 => some (r19.1, r19.2, true)))

def S_impl_InducedOn (F : Nat) (p0_g_Size : Int) (p0_g_Rows : List Int) (p1_set : Int) : Option (Int × (List (Int)) × Bool) :=
  ((S_impl_IsSet F p0_g_Size p0_g_Rows p1_set).bind fun r21 => (if (!r21) = true then S_impl_InducedOn_j1 F p0_g_Size p0_g_Rows p1_set true else S_impl_InducedOn_j1 F p0_g_Size p0_g_Rows p1_set (p1_set == 0)))

def S_laws_heldGraph (F : Nat) (p0_a_Size : Int) (p0_a_Rows : List Int) (p1_k : Int) : Option (Int) :=
  ((S_laws_heldIntS F p0_a_Rows p1_k).bind fun r6 => (if (decide (r6 < 0)) = true then some (-1) else some r6))

def S_laws_FnExactInducedOn_j3 (F : Nat) (r35 : Int × (List (Int)) × Bool) (r82 : Int × (List (Int))) (p116 : Bool) : Option (Bool) :=
  (if p116 = true then some false else ((S_laws_heldGraph F r35.1 r82.2 1).bind fun r121 => (if (decide (r121 < 0)) = true then some false else (if (r121 != r82.1) = true then some false else some true))))

def S_laws_FnExactInducedOn_j2 (F : Nat) (p0_aG_Size : Int) (p0_aG_Rows : List Int) (p1_aSet : Int) (r21 : Int × (List (Int)) × Bool) (r35 : Int × (List (Int)) × Bool) (p77 : Bool) : Option (Bool) :=
  (if p77 = true then some false else ((S_laws_markGraph F r35.1 r35.2.1 1).bind fun r82 => ((S_laws_heldGraph F r35.1 r82.2 1).bind fun r86 => (if (decide (r86 < 0)) = true then some false else (if (r86 != r82.1) = true then some false else ((S_laws_toGraph F p0_aG_Size p0_aG_Rows).bind fun r103 => ((S_impl_InducedOn F r103.1 r103.2 p1_aSet).bind fun r105 => ((S_laws_eqGraph F r105.1 r105.2.1 r21.1 r21.2.1).bind fun r133 => (if (!r133) = true then S_laws_FnExactInducedOn_j3 F r35 r82 true else S_laws_FnExactInducedOn_j3 F r35 r82 (r105.2.2 != r21.2.2))))))))))

def S_laws_FnExactInducedOn_j1 (F : Nat) (p0_aG_Size : Int) (p0_aG_Rows : List Int) (p1_aSet : Int) (r21 : Int × (List (Int)) × Bool) (r28 : Int × (List (Int))) (r35 : Int × (List (Int)) × Bool) (p46 : Bool) : Option (Bool) :=
  (if p46 = true then some false else ((S_laws_toGraph F p0_aG_Size p0_aG_Rows).bind fun r61 => ((S_laws_eqGraph F r28.1 r28.2 r61.1 r61.2).bind fun r63 => (if (!r63) = true then some false else ((S_laws_markGraph F r28.1 r28.2 1).bind fun r68 => (if (decide (r68.1 < 0)) = true then S_laws_FnExactInducedOn_j2 F p0_aG_Size p0_aG_Rows p1_aSet r21 r35 true else ((S_laws_eqGraph F r35.1 r35.2.1 r21.1 r21.2.1).bind fun r134 => (if (!r134) = true then S_laws_FnExactInducedOn_j2 F p0_aG_Size p0_aG_Rows p1_aSet r21 r35 true else S_laws_FnExactInducedOn_j2 F p0_aG_Size p0_aG_Rows p1_aSet r21 r35 (r35.2.2 != r21.2.2)))))))))

def S_laws_FnExactInducedOn (F : Nat) (p0_aG_Size : Int) (p0_aG_Rows : List Int) (p1_aSet : Int) : Option (Bool) :=
  ((S_laws_szGraph F p0_aG_Size p0_aG_Rows 1048576).bind fun r7 => (if (decide (r7 < 0)) = true then some true else ((S_laws_toGraph F p0_aG_Size p0_aG_Rows).bind fun r19 => ((S_spec_InducedOn F r19.1 r19.2 p1_aSet).bind fun r21 => ((S_laws_toGraph F p0_aG_Size p0_aG_Rows).bind fun r28 => ((S_impl_InducedOn F r28.1 r28.2 p1_aSet).bind fun r35 => ((S_laws_eqGraph F r35.1 r35.2.1 r21.1 r21.2.1).bind fun r135 => (if (!r135) = true then S_laws_FnExactInducedOn_j1 F p0_aG_Size p0_aG_Rows p1_aSet r21 r28 r35 true else S_laws_FnExactInducedOn_j1 F p0_aG_Size p0_aG_Rows p1_aSet r21 r28 r35 (r35.2.2 != r21.2.2)))))))))

def S_spec_LexOrder_j2 (F : Nat) (l197 : List Int) : Option ((List (Int)) × Bool) :=
  some (l197, true)

def S_spec_LexOrder_j4 (F : Nat) (l200 : List Int) (x201 : Int) (x329 : Int) : Option (((List Int) × Int) ⊕ (((List Int)))) :=
  ((catO l200.length ([x329] : List (Int)).length).bind fun _ => ((nnO x329).bind fun _ => some (Sum.inl ((l200 ++ ([x329] : List (Int))), (IntKind.i64.wrap (x201 + (shL 1 x329)))))))

def S_spec_LexOrder_j6 (F : Nat) (x337 : Int) (x365 : Int) : Option ((Int × Int) ⊕ (Int)) :=
  some (Sum.inl (x365, (IntKind.i64.wrap (x337 + 1))))

def S_spec_LexOrder_j7 (F : Nat) (x336 : Int) (x337 : Int) (p369 : Bool) : Option ((Int × Int) ⊕ (Int)) :=
  (if p369 = true then S_spec_LexOrder_j6 F x337 x337 else S_spec_LexOrder_j6 F x337 x336)

def S_spec_LexOrder_l5 (F : Nat) (p0_g_Size : Int) (p0_g_Rows : List Int) (l200 : List Int) (x201 : Int) (x336 : Int) (x337 : Int) : Option ((Int × Int) ⊕ (Int)) :=
  (if (decide (x337 < p0_g_Size)) = true then ((nnO x337).bind fun _ => (if ((bAnd (shR x201 x337) 1) == 0) = true then (if (decide (x336 < 0)) = true then S_spec_LexOrder_j7 F x336 x337 true else ((S_spec_l5Label F p0_g_Size p0_g_Rows l200 x337).bind fun r370 => ((S_spec_l5Label F p0_g_Size p0_g_Rows l200 x336).bind fun r371 => S_spec_LexOrder_j7 F x336 x337 (decide (r371 < r370))))) else S_spec_LexOrder_j7 F x336 x337 false)) else some (Sum.inr x336))

def S_spec_LexOrder_l3 (F : Nat) (p0_g_Size : Int) (p0_g_Rows : List Int) (l200 : List Int) (x201 : Int) : Option (((List Int) × Int) ⊕ (((List Int)))) :=
  (if (decide ((l200.length : Int) < p0_g_Size)) = true then (loopN (σ := (Int × Int)) (β := Int) (fun s => S_spec_LexOrder_l5 F p0_g_Size p0_g_Rows l200 x201 s.1 s.2) F ((-1), 0)).bind (fun b => S_spec_LexOrder_j4 F l200 x201 b) else some (Sum.inr l200))

def S_spec_LexOrder_j1 (F : Nat) (p0_g_Size : Int) (p0_g_Rows : List Int) (p1_start : Int) (p14 : Bool) : Option ((List (Int)) × Bool) :=
  (if p14 = true then some (([] : List (Int)), false) else ((nnO p1_start).bind fun _ => (loopN (σ := ((List Int) × Int)) (β := (((List Int)))) (fun s => S_spec_LexOrder_l3 F p0_g_Size p0_g_Rows s.1 s.2) F (([p1_start] : List (Int)), (shL 1 p1_start))).bind (fun b => S_spec_LexOrder_j2 F b)))

def S_spec_LexOrder (F : Nat) (p0_g_Size : Int) (p0_g_Rows : List Int) (p1_start : Int) : Option ((List (Int)) × Bool) :=
  ((S_spec_IsGraph F p0_g_Size p0_g_Rows).bind fun r372 => (if (!r372) = true then S_spec_LexOrder_j1 F p0_g_Size p0_g_Rows p1_start true else (if (decide (p1_start < 0)) = true then S_spec_LexOrder_j1 F p0_g_Size p0_g_Rows p1_start true else S_spec_LexOrder_j1 F p0_g_Size p0_g_Rows p1_start (decide (p0_g_Size ≤ p1_start)))))

def S_impl_LexOrder_c1 (F : Nat) (p0_v : Int) (p1_order : List Int) (q0_Size : Int) (q0_Rows : List Int) : Option (Int) :=
  ((S_impl_label F q0_Size q0_Rows p0_v p1_order).bind fun r4 => some r4)

def S_impl_greedyOrder__LexOrderc1_j1 (F : Nat) (l224 : List Int) : Option ((List (Int)) × Bool) :=
  some (l224, true)

def S_impl_greedyOrder__LexOrderc1_j3 (F : Nat) (l227 : List Int) (x379 : Int) : Option (((List Int)) ⊕ (((List Int)))) :=
  ((catO l227.length ([x379] : List (Int)).length).bind fun _ => some (Sum.inl (l227 ++ ([x379] : List (Int)))))

def S_impl_greedyOrder__LexOrderc1_j5 (F : Nat) (x385 : Int) (x418 : Int) (x419 : Int) : Option ((Int × Int × Int) ⊕ (Int)) :=
  some (Sum.inl (x418, x419, (IntKind.i64.wrap (x385 + 1))))

def S_impl_greedyOrder__LexOrderc1_j6 (F : Nat) (x383 : Int) (x384 : Int) (x385 : Int) (r423 : Int) (p426 : Bool) : Option ((Int × Int × Int) ⊕ (Int)) :=
  (if p426 = true then S_impl_greedyOrder__LexOrderc1_j5 F x385 x385 r423 else S_impl_greedyOrder__LexOrderc1_j5 F x385 x383 x384)

def S_impl_greedyOrder__LexOrderc1_l4 (F : Nat) (p0_g_Size : Int) (p2_number_c0_Size : Int) (p2_number_c0_Rows : List Int) (l227 : List Int) (x383 : Int) (x384 : Int) (x385 : Int) : Option ((Int × Int × Int) ⊕ (Int)) :=
  (if (decide (x385 < p0_g_Size)) = true then ((S_impl_LexOrder_c1 F x385 l227 p2_number_c0_Size p2_number_c0_Rows).bind fun r423 => ((S_slices_Contains_int F l227 x385).bind fun r427 => (if (!r427) = true then S_impl_greedyOrder__LexOrderc1_j6 F x383 x384 x385 r423 (decide (x384 < r423)) else S_impl_greedyOrder__LexOrderc1_j6 F x383 x384 x385 r423 false))) else some (Sum.inr x383))

def S_impl_greedyOrder__LexOrderc1_l2 (F : Nat) (p0_g_Size : Int) (p2_number_c0_Size : Int) (p2_number_c0_Rows : List Int) (l227 : List Int) : Option (((List Int)) ⊕ (((List Int)))) :=
  (if (decide ((l227.length : Int) < p0_g_Size)) = true then (loopN (σ := (Int × Int × Int)) (β := Int) (fun s => S_impl_greedyOrder__LexOrderc1_l4 F p0_g_Size p2_number_c0_Size p2_number_c0_Rows l227 s.1 s.2.1 s.2.2) F ((-1), (-1), 0)).bind (fun b => S_impl_greedyOrder__LexOrderc1_j3 F l227 b) else some (Sum.inr l227))

def S_impl_greedyOrder__LexOrderc1 (F : Nat) (p0_g_Size : Int) (p0_g_Rows : List Int) (p1_start : Int) (p2_number_c0_Size : Int) (p2_number_c0_Rows : List Int) : Option ((List (Int)) × Bool) :=
  ((S_impl_isVertex F p0_g_Size p0_g_Rows ([p1_start] : List (Int))).bind fun r15 => (if (!r15) = true then some (([] : List (Int)), false) else (loopN (σ := ((List Int))) (β := (((List Int)))) (fun s => S_impl_greedyOrder__LexOrderc1_l2 F p0_g_Size p2_number_c0_Size p2_number_c0_Rows s) F ([p1_start] : List (Int))).bind (fun b => S_impl_greedyOrder__LexOrderc1_j1 F b)))

def S_impl_LexOrder (F : Nat) (p0_g_Size : Int) (p0_g_Rows : List Int) (p1_start : Int) : Option ((List (Int)) × Bool) :=
  ((S_impl_greedyOrder__LexOrderc1 F p0_g_Size p0_g_Rows p1_start p0_g_Size p0_g_Rows).bind fun r7 => some (r7.1, r7.2))

def S_laws_FnExactLexOrder_j3 (F : Nat) (r78 : Int × (List (Int))) (p110 : Bool) : Option (Bool) :=
  (if p110 = true then some false else ((S_laws_heldIntS F r78.2 1).bind fun r115 => (if (decide (r115 < 0)) = true then some false else (if (r115 != r78.1) = true then some false else some true))))

def S_laws_FnExactLexOrder_j2 (F : Nat) (p0_aG_Size : Int) (p0_aG_Rows : List Int) (p1_aStart : Int) (r20 : (List (Int)) × Bool) (r32 : (List (Int)) × Bool) (p73 : Bool) : Option (Bool) :=
  (if p73 = true then some false else ((S_laws_markIntS F r32.1 1).bind fun r78 => ((S_laws_heldIntS F r78.2 1).bind fun r82 => (if (decide (r82 < 0)) = true then some false else (if (r82 != r78.1) = true then some false else ((S_laws_toGraph F p0_aG_Size p0_aG_Rows).bind fun r98 => ((S_impl_LexOrder F r98.1 r98.2 p1_aStart).bind fun r100 => ((S_laws_eqIntS F r100.1 r20.1).bind fun r127 => (if (!r127) = true then S_laws_FnExactLexOrder_j3 F r78 true else S_laws_FnExactLexOrder_j3 F r78 (r100.2 != r20.2))))))))))

def S_laws_FnExactLexOrder_j1 (F : Nat) (p0_aG_Size : Int) (p0_aG_Rows : List Int) (p1_aStart : Int) (r20 : (List (Int)) × Bool) (r26 : Int × (List (Int))) (r32 : (List (Int)) × Bool) (p42 : Bool) : Option (Bool) :=
  (if p42 = true then some false else ((S_laws_toGraph F p0_aG_Size p0_aG_Rows).bind fun r57 => ((S_laws_eqGraph F r26.1 r26.2 r57.1 r57.2).bind fun r59 => (if (!r59) = true then some false else ((S_laws_markGraph F r26.1 r26.2 1).bind fun r64 => (if (decide (r64.1 < 0)) = true then S_laws_FnExactLexOrder_j2 F p0_aG_Size p0_aG_Rows p1_aStart r20 r32 true else ((S_laws_eqIntS F r32.1 r20.1).bind fun r128 => (if (!r128) = true then S_laws_FnExactLexOrder_j2 F p0_aG_Size p0_aG_Rows p1_aStart r20 r32 true else S_laws_FnExactLexOrder_j2 F p0_aG_Size p0_aG_Rows p1_aStart r20 r32 (r32.2 != r20.2)))))))))

def S_laws_FnExactLexOrder (F : Nat) (p0_aG_Size : Int) (p0_aG_Rows : List Int) (p1_aStart : Int) : Option (Bool) :=
  ((S_laws_szGraph F p0_aG_Size p0_aG_Rows 1048576).bind fun r7 => (if (decide (r7 < 0)) = true then some true else ((S_laws_toGraph F p0_aG_Size p0_aG_Rows).bind fun r18 => ((S_spec_LexOrder F r18.1 r18.2 p1_aStart).bind fun r20 => ((S_laws_toGraph F p0_aG_Size p0_aG_Rows).bind fun r26 => ((S_impl_LexOrder F r26.1 r26.2 p1_aStart).bind fun r32 => ((S_laws_eqIntS F r32.1 r20.1).bind fun r129 => (if (!r129) = true then S_laws_FnExactLexOrder_j1 F p0_aG_Size p0_aG_Rows p1_aStart r20 r26 r32 true else S_laws_FnExactLexOrder_j1 F p0_aG_Size p0_aG_Rows p1_aStart r20 r26 r32 (r32.2 != r20.2)))))))))

def S_laws_FnExactEliminationOf_j3 (F : Nat) (r78 : Int × (List (Int))) (p110 : Bool) : Option (Bool) :=
  (if p110 = true then some false else ((S_laws_heldIntS F r78.2 1).bind fun r115 => (if (decide (r115 < 0)) = true then some false else (if (r115 != r78.1) = true then some false else some true))))

def S_laws_FnExactEliminationOf_j2 (F : Nat) (p0_aG_Size : Int) (p0_aG_Rows : List Int) (r20 : (List (Int)) × Bool) (r32 : (List (Int)) × Bool) (p73 : Bool) : Option (Bool) :=
  (if p73 = true then some false else ((S_laws_markIntS F r32.1 1).bind fun r78 => ((S_laws_heldIntS F r78.2 1).bind fun r82 => (if (decide (r82 < 0)) = true then some false else (if (r82 != r78.1) = true then some false else ((S_laws_toGraph F p0_aG_Size p0_aG_Rows).bind fun r98 => ((S_impl_EliminationOf F r98.1 r98.2).bind fun r100 => ((S_laws_eqIntS F r100.1 r20.1).bind fun r127 => (if (!r127) = true then S_laws_FnExactEliminationOf_j3 F r78 true else S_laws_FnExactEliminationOf_j3 F r78 (r100.2 != r20.2))))))))))

def S_laws_FnExactEliminationOf_j1 (F : Nat) (p0_aG_Size : Int) (p0_aG_Rows : List Int) (r20 : (List (Int)) × Bool) (r26 : Int × (List (Int))) (r32 : (List (Int)) × Bool) (p42 : Bool) : Option (Bool) :=
  (if p42 = true then some false else ((S_laws_toGraph F p0_aG_Size p0_aG_Rows).bind fun r57 => ((S_laws_eqGraph F r26.1 r26.2 r57.1 r57.2).bind fun r59 => (if (!r59) = true then some false else ((S_laws_markGraph F r26.1 r26.2 1).bind fun r64 => (if (decide (r64.1 < 0)) = true then S_laws_FnExactEliminationOf_j2 F p0_aG_Size p0_aG_Rows r20 r32 true else ((S_laws_eqIntS F r32.1 r20.1).bind fun r128 => (if (!r128) = true then S_laws_FnExactEliminationOf_j2 F p0_aG_Size p0_aG_Rows r20 r32 true else S_laws_FnExactEliminationOf_j2 F p0_aG_Size p0_aG_Rows r20 r32 (r32.2 != r20.2)))))))))

def S_laws_FnExactEliminationOf (F : Nat) (p0_aG_Size : Int) (p0_aG_Rows : List Int) : Option (Bool) :=
  ((S_laws_szGraph F p0_aG_Size p0_aG_Rows 1048576).bind fun r7 => (if (decide (r7 < 0)) = true then some true else ((S_laws_toGraph F p0_aG_Size p0_aG_Rows).bind fun r18 => ((S_spec_EliminationOf F r18.1 r18.2).bind fun r20 => ((S_laws_toGraph F p0_aG_Size p0_aG_Rows).bind fun r26 => ((S_impl_EliminationOf F r26.1 r26.2).bind fun r32 => ((S_laws_eqIntS F r32.1 r20.1).bind fun r129 => (if (!r129) = true then S_laws_FnExactEliminationOf_j1 F p0_aG_Size p0_aG_Rows r20 r26 r32 true else S_laws_FnExactEliminationOf_j1 F p0_aG_Size p0_aG_Rows r20 r26 r32 (r32.2 != r20.2)))))))))

def S_impl_PartsOf (F : Nat) (p0_g_Size : Int) (p0_g_Rows : List Int) (p1_set : Int) : Option ((List (Int))) :=
  ((S_impl_IsSet F p0_g_Size p0_g_Rows p1_set).bind fun r11 => (if (!r11) = true then some ([] : List (Int)) else ((S_impl_parts F p0_g_Size p0_g_Rows p1_set).bind fun r16 => some r16)))

def S_laws_FnExactPartsOf_j1 (F : Nat) (p0_aG_Size : Int) (p0_aG_Rows : List Int) (p1_aSet : Int) (r20 : (List (Int))) (r32 : (List (Int))) (p72 : Bool) : Option (Bool) :=
  (if p72 = true then some false else ((S_laws_markIntS F r32 1).bind fun r77 => ((S_laws_heldIntS F r77.2 1).bind fun r81 => (if (decide (r81 < 0)) = true then some false else (if (r81 != r77.1) = true then some false else ((S_laws_toGraph F p0_aG_Size p0_aG_Rows).bind fun r97 => ((S_impl_PartsOf F r97.1 r97.2 p1_aSet).bind fun r99 => ((S_laws_eqIntS F r99 r20).bind fun r108 => (if (!r108) = true then some false else ((S_laws_heldIntS F r77.2 1).bind fun r113 => (if (decide (r113 < 0)) = true then some false else (if (r113 != r77.1) = true then some false else some true))))))))))))

def S_laws_FnExactPartsOf (F : Nat) (p0_aG_Size : Int) (p0_aG_Rows : List Int) (p1_aSet : Int) : Option (Bool) :=
  ((S_laws_szGraph F p0_aG_Size p0_aG_Rows 1048576).bind fun r7 => (if (decide (r7 < 0)) = true then some true else ((S_laws_toGraph F p0_aG_Size p0_aG_Rows).bind fun r18 => ((S_spec_PartsOf F r18.1 r18.2 p1_aSet).bind fun r20 => ((S_laws_toGraph F p0_aG_Size p0_aG_Rows).bind fun r26 => ((S_impl_PartsOf F r26.1 r26.2 p1_aSet).bind fun r32 => ((S_laws_eqIntS F r32 r20).bind fun r41 => (if (!r41) = true then some false else ((S_laws_toGraph F p0_aG_Size p0_aG_Rows).bind fun r56 => ((S_laws_eqGraph F r26.1 r26.2 r56.1 r56.2).bind fun r58 => (if (!r58) = true then some false else ((S_laws_markGraph F r26.1 r26.2 1).bind fun r63 => (if (decide (r63.1 < 0)) = true then S_laws_FnExactPartsOf_j1 F p0_aG_Size p0_aG_Rows p1_aSet r20 r32 true else ((S_laws_eqIntS F r32 r20).bind fun r125 => S_laws_FnExactPartsOf_j1 F p0_aG_Size p0_aG_Rows p1_aSet r20 r32 (!r125)))))))))))))))

def S_spec_CountSet (F : Nat) (p0_set : Int) : Option (Int) :=
  ((S_spec_ListOf F p0_set).bind fun r5 => some (r5.length : Int))

def S_spec_CardinalityOrder_j2 (F : Nat) (l243 : List Int) : Option ((List (Int)) × Bool) :=
  some (l243, true)

def S_spec_CardinalityOrder_j4 (F : Nat) (l246 : List Int) (x247 : Int) (x410 : Int) : Option (((List Int) × Int) ⊕ (((List Int)))) :=
  ((catO l246.length ([x410] : List (Int)).length).bind fun _ => ((nnO x410).bind fun _ => some (Sum.inl ((l246 ++ ([x410] : List (Int))), (IntKind.i64.wrap (x247 + (shL 1 x410)))))))

def S_spec_CardinalityOrder_j6 (F : Nat) (x419 : Int) (x454 : Int) (x455 : Int) : Option ((Int × Int × Int) ⊕ (Int)) :=
  some (Sum.inl (x454, x455, (IntKind.i64.wrap (x419 + 1))))

def S_spec_CardinalityOrder_j7 (F : Nat) (x417 : Int) (x418 : Int) (x419 : Int) (r460 : Int) (p462 : Bool) : Option ((Int × Int × Int) ⊕ (Int)) :=
  (if p462 = true then S_spec_CardinalityOrder_j6 F x419 x419 r460 else S_spec_CardinalityOrder_j6 F x419 x417 x418)

def S_spec_CardinalityOrder_l5 (F : Nat) (p0_g_Size : Int) (p0_g_Rows : List Int) (x247 : Int) (x417 : Int) (x418 : Int) (x419 : Int) : Option ((Int × Int × Int) ⊕ (Int)) :=
  (if (decide (x419 < p0_g_Size)) = true then ((idxL p0_g_Rows x419).bind fun x459 => ((S_spec_CountSet F (bAnd x459 x247)).bind fun r460 => ((nnO x419).bind fun _ => (if ((bAnd (shR x247 x419) 1) == 0) = true then S_spec_CardinalityOrder_j7 F x417 x418 x419 r460 (decide (x418 < r460)) else S_spec_CardinalityOrder_j7 F x417 x418 x419 r460 false)))) else some (Sum.inr x417))

def S_spec_CardinalityOrder_l3 (F : Nat) (p0_g_Size : Int) (p0_g_Rows : List Int) (l246 : List Int) (x247 : Int) : Option (((List Int) × Int) ⊕ (((List Int)))) :=
  (if (decide ((l246.length : Int) < p0_g_Size)) = true then (loopN (σ := (Int × Int × Int)) (β := Int) (fun s => S_spec_CardinalityOrder_l5 F p0_g_Size p0_g_Rows x247 s.1 s.2.1 s.2.2) F ((-1), (-1), 0)).bind (fun b => S_spec_CardinalityOrder_j4 F l246 x247 b) else some (Sum.inr l246))

def S_spec_CardinalityOrder_j1 (F : Nat) (p0_g_Size : Int) (p0_g_Rows : List Int) (p1_start : Int) (p14 : Bool) : Option ((List (Int)) × Bool) :=
  (if p14 = true then some (([] : List (Int)), false) else ((nnO p1_start).bind fun _ => (loopN (σ := ((List Int) × Int)) (β := (((List Int)))) (fun s => S_spec_CardinalityOrder_l3 F p0_g_Size p0_g_Rows s.1 s.2) F (([p1_start] : List (Int)), (shL 1 p1_start))).bind (fun b => S_spec_CardinalityOrder_j2 F b)))

def S_spec_CardinalityOrder (F : Nat) (p0_g_Size : Int) (p0_g_Rows : List Int) (p1_start : Int) : Option ((List (Int)) × Bool) :=
  ((S_spec_IsGraph F p0_g_Size p0_g_Rows).bind fun r464 => (if (!r464) = true then S_spec_CardinalityOrder_j1 F p0_g_Size p0_g_Rows p1_start true else (if (decide (p1_start < 0)) = true then S_spec_CardinalityOrder_j1 F p0_g_Size p0_g_Rows p1_start true else S_spec_CardinalityOrder_j1 F p0_g_Size p0_g_Rows p1_start (decide (p0_g_Size ≤ p1_start)))))

def S_impl_SetOf_j1 (F : Nat) (x85 : Int) : Option (Int × Bool) :=
  some (x85, true)

def S_impl_SetOf_j3 (F : Nat) (x88 : Int) (x89 : Int) (x152 : Int) (p164 : Bool) : Option ((Int × Int) ⊕ (Int ⊕ (Int × Bool))) :=
  (if p164 = true then some (Sum.inr (Sum.inr (0, false))) else ((nnO x152).bind fun _ => some (Sum.inl ((bOr x88 (shL 1 x152)), (IntKind.i64.wrap (x89 + 1))))))

def S_impl_SetOf_l2 (F : Nat) (p0_l : List Int) (x88 : Int) (x89 : Int) : Option ((Int × Int) ⊕ (Int ⊕ (Int × Bool))) :=
  (if (decide (x89 < (p0_l.length : Int))) = true then ((idxL p0_l x89).bind fun x152 => ((S_impl_within F x152 0 6).bind fun r166 => (if (!r166) = true then S_impl_SetOf_j3 F x88 x89 x152 true else ((S_impl_has F x88 x152).bind fun r167 => S_impl_SetOf_j3 F x88 x89 x152 r167)))) else some (Sum.inr (Sum.inl x88)))

def S_impl_SetOf (F : Nat) (p0_l : List Int) : Option (Int × Bool) :=
  (loopN (σ := (Int × Int)) (β := (Int ⊕ (Int × Bool))) (fun s => S_impl_SetOf_l2 F p0_l s.1 s.2) F (0, 0)).bind (fun b => (match b with | .inl o => S_impl_SetOf_j1 F o | .inr o => some o))

def S_impl_CountSet (F : Nat) (p0_set : Int) : Option (Int) :=
  ((S_impl_ListOf F p0_set).bind fun r5 => some (r5.length : Int))

def S_impl_CardinalityOrder_c1 (F : Nat) (p0_v : Int) (p1_order : List Int) (q0_Size : Int) (q0_Rows : List Int) : Option (Int) :=
  ((S_impl_SetOf F p1_order).bind fun r4 => ((idxL q0_Rows p0_v).bind fun x8 => ((S_impl_CountSet F (bAnd x8 r4.1)).bind fun r9 => some r9)))

def S_impl_greedyOrder__CardinalityOrderc1_j1 (F : Nat) (l224 : List Int) : Option ((List (Int)) × Bool) :=
  some (l224, true)

def S_impl_greedyOrder__CardinalityOrderc1_j3 (F : Nat) (l227 : List Int) (x379 : Int) : Option (((List Int)) ⊕ (((List Int)))) :=
  ((catO l227.length ([x379] : List (Int)).length).bind fun _ => some (Sum.inl (l227 ++ ([x379] : List (Int)))))

def S_impl_greedyOrder__CardinalityOrderc1_j5 (F : Nat) (x385 : Int) (x418 : Int) (x419 : Int) : Option ((Int × Int × Int) ⊕ (Int)) :=
  some (Sum.inl (x418, x419, (IntKind.i64.wrap (x385 + 1))))

def S_impl_greedyOrder__CardinalityOrderc1_j6 (F : Nat) (x383 : Int) (x384 : Int) (x385 : Int) (r423 : Int) (p426 : Bool) : Option ((Int × Int × Int) ⊕ (Int)) :=
  (if p426 = true then S_impl_greedyOrder__CardinalityOrderc1_j5 F x385 x385 r423 else S_impl_greedyOrder__CardinalityOrderc1_j5 F x385 x383 x384)

def S_impl_greedyOrder__CardinalityOrderc1_l4 (F : Nat) (p0_g_Size : Int) (p2_number_c0_Size : Int) (p2_number_c0_Rows : List Int) (l227 : List Int) (x383 : Int) (x384 : Int) (x385 : Int) : Option ((Int × Int × Int) ⊕ (Int)) :=
  (if (decide (x385 < p0_g_Size)) = true then ((S_impl_CardinalityOrder_c1 F x385 l227 p2_number_c0_Size p2_number_c0_Rows).bind fun r423 => ((S_slices_Contains_int F l227 x385).bind fun r427 => (if (!r427) = true then S_impl_greedyOrder__CardinalityOrderc1_j6 F x383 x384 x385 r423 (decide (x384 < r423)) else S_impl_greedyOrder__CardinalityOrderc1_j6 F x383 x384 x385 r423 false))) else some (Sum.inr x383))

def S_impl_greedyOrder__CardinalityOrderc1_l2 (F : Nat) (p0_g_Size : Int) (p2_number_c0_Size : Int) (p2_number_c0_Rows : List Int) (l227 : List Int) : Option (((List Int)) ⊕ (((List Int)))) :=
  (if (decide ((l227.length : Int) < p0_g_Size)) = true then (loopN (σ := (Int × Int × Int)) (β := Int) (fun s => S_impl_greedyOrder__CardinalityOrderc1_l4 F p0_g_Size p2_number_c0_Size p2_number_c0_Rows l227 s.1 s.2.1 s.2.2) F ((-1), (-1), 0)).bind (fun b => S_impl_greedyOrder__CardinalityOrderc1_j3 F l227 b) else some (Sum.inr l227))

def S_impl_greedyOrder__CardinalityOrderc1 (F : Nat) (p0_g_Size : Int) (p0_g_Rows : List Int) (p1_start : Int) (p2_number_c0_Size : Int) (p2_number_c0_Rows : List Int) : Option ((List (Int)) × Bool) :=
  ((S_impl_isVertex F p0_g_Size p0_g_Rows ([p1_start] : List (Int))).bind fun r15 => (if (!r15) = true then some (([] : List (Int)), false) else (loopN (σ := ((List Int))) (β := (((List Int)))) (fun s => S_impl_greedyOrder__CardinalityOrderc1_l2 F p0_g_Size p2_number_c0_Size p2_number_c0_Rows s) F ([p1_start] : List (Int))).bind (fun b => S_impl_greedyOrder__CardinalityOrderc1_j1 F b)))

def S_impl_CardinalityOrder (F : Nat) (p0_g_Size : Int) (p0_g_Rows : List Int) (p1_start : Int) : Option ((List (Int)) × Bool) :=
  ((S_impl_greedyOrder__CardinalityOrderc1 F p0_g_Size p0_g_Rows p1_start p0_g_Size p0_g_Rows).bind fun r7 => some (r7.1, r7.2))

def S_laws_FnExactCardinalityOrder_j3 (F : Nat) (r78 : Int × (List (Int))) (p110 : Bool) : Option (Bool) :=
  (if p110 = true then some false else ((S_laws_heldIntS F r78.2 1).bind fun r115 => (if (decide (r115 < 0)) = true then some false else (if (r115 != r78.1) = true then some false else some true))))

def S_laws_FnExactCardinalityOrder_j2 (F : Nat) (p0_aG_Size : Int) (p0_aG_Rows : List Int) (p1_aStart : Int) (r20 : (List (Int)) × Bool) (r32 : (List (Int)) × Bool) (p73 : Bool) : Option (Bool) :=
  (if p73 = true then some false else ((S_laws_markIntS F r32.1 1).bind fun r78 => ((S_laws_heldIntS F r78.2 1).bind fun r82 => (if (decide (r82 < 0)) = true then some false else (if (r82 != r78.1) = true then some false else ((S_laws_toGraph F p0_aG_Size p0_aG_Rows).bind fun r98 => ((S_impl_CardinalityOrder F r98.1 r98.2 p1_aStart).bind fun r100 => ((S_laws_eqIntS F r100.1 r20.1).bind fun r127 => (if (!r127) = true then S_laws_FnExactCardinalityOrder_j3 F r78 true else S_laws_FnExactCardinalityOrder_j3 F r78 (r100.2 != r20.2))))))))))

def S_laws_FnExactCardinalityOrder_j1 (F : Nat) (p0_aG_Size : Int) (p0_aG_Rows : List Int) (p1_aStart : Int) (r20 : (List (Int)) × Bool) (r26 : Int × (List (Int))) (r32 : (List (Int)) × Bool) (p42 : Bool) : Option (Bool) :=
  (if p42 = true then some false else ((S_laws_toGraph F p0_aG_Size p0_aG_Rows).bind fun r57 => ((S_laws_eqGraph F r26.1 r26.2 r57.1 r57.2).bind fun r59 => (if (!r59) = true then some false else ((S_laws_markGraph F r26.1 r26.2 1).bind fun r64 => (if (decide (r64.1 < 0)) = true then S_laws_FnExactCardinalityOrder_j2 F p0_aG_Size p0_aG_Rows p1_aStart r20 r32 true else ((S_laws_eqIntS F r32.1 r20.1).bind fun r128 => (if (!r128) = true then S_laws_FnExactCardinalityOrder_j2 F p0_aG_Size p0_aG_Rows p1_aStart r20 r32 true else S_laws_FnExactCardinalityOrder_j2 F p0_aG_Size p0_aG_Rows p1_aStart r20 r32 (r32.2 != r20.2)))))))))

def S_laws_FnExactCardinalityOrder (F : Nat) (p0_aG_Size : Int) (p0_aG_Rows : List Int) (p1_aStart : Int) : Option (Bool) :=
  ((S_laws_szGraph F p0_aG_Size p0_aG_Rows 1048576).bind fun r7 => (if (decide (r7 < 0)) = true then some true else ((S_laws_toGraph F p0_aG_Size p0_aG_Rows).bind fun r18 => ((S_spec_CardinalityOrder F r18.1 r18.2 p1_aStart).bind fun r20 => ((S_laws_toGraph F p0_aG_Size p0_aG_Rows).bind fun r26 => ((S_impl_CardinalityOrder F r26.1 r26.2 p1_aStart).bind fun r32 => ((S_laws_eqIntS F r32.1 r20.1).bind fun r129 => (if (!r129) = true then S_laws_FnExactCardinalityOrder_j1 F p0_aG_Size p0_aG_Rows p1_aStart r20 r26 r32 true else S_laws_FnExactCardinalityOrder_j1 F p0_aG_Size p0_aG_Rows p1_aStart r20 r26 r32 (r32.2 != r20.2)))))))))

def S_spec_LaterNeighbours_j2 (F : Nat) (p0_g_Rows : List Int) (p2_v : Int) (x43 : Int) : Option (Int) :=
  ((idxL p0_g_Rows p2_v).bind fun x46 => some (bAnd x46 x43))

def S_spec_LaterNeighbours_j4 (F : Nat) (p1_order : List Int) (x48 : Int) (x49 : Int) (p69 : Bool) : Option ((Int × Int) ⊕ (Int)) :=
  (if p69 = true then ((idxL p1_order x49).bind fun x72 => ((nnO x72).bind fun _ => some (Sum.inl ((IntKind.i64.wrap (x48 - (shL 1 x72))), (IntKind.i64.wrap (x49 + 1)))))) else some (Sum.inr x48))

def S_spec_LaterNeighbours_l3 (F : Nat) (p1_order : List Int) (p2_v : Int) (x48 : Int) (x49 : Int) : Option ((Int × Int) ⊕ (Int)) :=
  (if (decide (x49 < (p1_order.length : Int))) = true then ((idxL p1_order x49).bind fun x73 => S_spec_LaterNeighbours_j4 F p1_order x48 x49 (x73 != p2_v)) else S_spec_LaterNeighbours_j4 F p1_order x48 x49 false)

def S_spec_LaterNeighbours_j1 (F : Nat) (p0_g_Size : Int) (p0_g_Rows : List Int) (p1_order : List Int) (p2_v : Int) (p12 : Bool) : Option (Int) :=
  (if p12 = true then some 0 else ((nnO p0_g_Size).bind fun _ => (loopN (σ := (Int × Int)) (β := Int) (fun s => S_spec_LaterNeighbours_l3 F p1_order p2_v s.1 s.2) F ((IntKind.i64.wrap ((shL 1 p0_g_Size) - 1)), 0)).bind (fun b => S_spec_LaterNeighbours_j2 F p0_g_Rows p2_v b)))

def S_spec_LaterNeighbours (F : Nat) (p0_g_Size : Int) (p0_g_Rows : List Int) (p1_order : List Int) (p2_v : Int) : Option (Int) :=
  ((S_spec_IsOrder F p0_g_Size p0_g_Rows p1_order).bind fun r74 => (if (!r74) = true then S_spec_LaterNeighbours_j1 F p0_g_Size p0_g_Rows p1_order p2_v true else (if (decide (p2_v < 0)) = true then S_spec_LaterNeighbours_j1 F p0_g_Size p0_g_Rows p1_order p2_v true else S_spec_LaterNeighbours_j1 F p0_g_Size p0_g_Rows p1_order p2_v (decide (p0_g_Size ≤ p2_v)))))

def S_spec_IsElimination_j1 (F : Nat) : Option (Bool) :=
  some true

def S_spec_IsElimination_l2 (F : Nat) (p0_g_Size : Int) (p0_g_Rows : List Int) (p1_order : List Int) (x50 : Int) : Option ((Int) ⊕ (Unit ⊕ Bool)) :=
  (if (decide (x50 < p0_g_Size)) = true then ((S_spec_LaterNeighbours F p0_g_Size p0_g_Rows p1_order x50).bind fun r80 => ((S_spec_IsClique F p0_g_Size p0_g_Rows r80).bind fun r81 => (if (!r81) = true then some (Sum.inr (Sum.inr false)) else some (Sum.inl (IntKind.i64.wrap (x50 + 1)))))) else some (Sum.inr (Sum.inl ())))

def S_spec_IsElimination (F : Nat) (p0_g_Size : Int) (p0_g_Rows : List Int) (p1_order : List Int) : Option (Bool) :=
  ((S_spec_IsOrder F p0_g_Size p0_g_Rows p1_order).bind fun r11 => (if (!r11) = true then some false else (loopN (σ := Int) (β := (Unit ⊕ Bool)) (fun s => S_spec_IsElimination_l2 F p0_g_Size p0_g_Rows p1_order s) F 0).bind (fun b => (match b with | .inl o => S_spec_IsElimination_j1 F | .inr o => some o))))

def S_impl_LaterNeighbours_j1 (F : Nat) (p0_g_Rows : List Int) (p1_order : List Int) (p2_v : Int) (p15 : Bool) : Option (Int) :=
  (if p15 = true then some 0 else ((S_slices_Index_int F p1_order p2_v).bind fun r21 => ((slO p1_order.length r21).bind fun _ => ((S_impl_SetOf F (p1_order.drop (r21.toNat))).bind fun r23 => ((idxL p0_g_Rows p2_v).bind fun x26 => some (bAnd x26 r23.1))))))

def S_impl_LaterNeighbours (F : Nat) (p0_g_Size : Int) (p0_g_Rows : List Int) (p1_order : List Int) (p2_v : Int) : Option (Int) :=
  ((S_impl_IsOrder F p0_g_Size p0_g_Rows p1_order).bind fun r27 => (if (!r27) = true then S_impl_LaterNeighbours_j1 F p0_g_Rows p1_order p2_v true else ((S_impl_within F p2_v 0 (IntKind.i64.wrap (p0_g_Size - 1))).bind fun r28 => S_impl_LaterNeighbours_j1 F p0_g_Rows p1_order p2_v (!r28))))

def S_impl_IsElimination_c1 (F : Nat) (p0_v : Int) (q0_Size : Int) (q0_Rows : List Int) (q1_v : List Int) : Option (Bool) :=
  ((S_impl_LaterNeighbours F q0_Size q0_Rows q1_v p0_v).bind fun r5 => ((S_impl_isClique F q0_Size q0_Rows r5).bind fun r6 => some (!r6)))

def S_slices_IndexFunc_int__IsEliminationc1_j1 (F : Nat) : Option (Int) :=
  some (-1)

def S_slices_IndexFunc_int__IsEliminationc1_l2 (F : Nat) (p0_s : List Int) (p1_f_c0_Size : Int) (p1_f_c0_Rows : List Int) (p1_f_c1_v : List Int) (x41 : Int) : Option ((Int) ⊕ (Unit ⊕ Int)) :=
  (if (decide (x41 < (p0_s.length : Int))) = true then ((idxL p0_s x41).bind fun x73 => ((S_impl_IsElimination_c1 F x73 p1_f_c0_Size p1_f_c0_Rows p1_f_c1_v).bind fun r74 => (if r74 = true then some (Sum.inr (Sum.inr x41)) else some (Sum.inl (IntKind.i64.wrap (x41 + 1)))))) else some (Sum.inr (Sum.inl ())))

def S_slices_IndexFunc_int__IsEliminationc1 (F : Nat) (p0_s : List Int) (p1_f_c0_Size : Int) (p1_f_c0_Rows : List Int) (p1_f_c1_v : List Int) : Option (Int) :=
  (loopN (σ := Int) (β := (Unit ⊕ Int)) (fun s => S_slices_IndexFunc_int__IsEliminationc1_l2 F p0_s p1_f_c0_Size p1_f_c0_Rows p1_f_c1_v s) F 0).bind (fun b => (match b with | .inl o => S_slices_IndexFunc_int__IsEliminationc1_j1 F | .inr o => some o))

def S_slices_ContainsFunc_int__IsEliminationc1 (F : Nat) (p0_s : List Int) (p1_f_c0_Size : Int) (p1_f_c0_Rows : List Int) (p1_f_c1_v : List Int) : Option (Bool) :=
  ((S_slices_IndexFunc_int__IsEliminationc1 F p0_s p1_f_c0_Size p1_f_c0_Rows p1_f_c1_v).bind fun r4 => some (decide ((0 : Int) ≤ r4)))

def S_impl_IsElimination (F : Nat) (p0_g_Size : Int) (p0_g_Rows : List Int) (p1_order : List Int) : Option (Bool) :=
  ((S_impl_IsOrder F p0_g_Size p0_g_Rows p1_order).bind fun r13 => (if (!r13) = true then some false else ((S_slices_ContainsFunc_int__IsEliminationc1 F p1_order p0_g_Size p0_g_Rows p1_order).bind fun r17 => some (!r17))))

def S_laws_FnExactIsElimination (F : Nat) (p0_aG_Size : Int) (p0_aG_Rows : List Int) (p1_aOrder : List Int) : Option (Bool) :=
  (if (decide ((1048576 : Int) < (p1_aOrder.length : Int))) = true then some true else ((S_laws_szGraph F p0_aG_Size p0_aG_Rows 1048576).bind fun r12 => (if (decide (r12 < 0)) = true then some true else ((S_laws_toGraph F p0_aG_Size p0_aG_Rows).bind fun r24 => ((S_laws_toIntS F p1_aOrder).bind fun r26 => ((S_spec_IsElimination F r24.1 r24.2 r26).bind fun r28 => ((S_laws_toGraph F p0_aG_Size p0_aG_Rows).bind fun r33 => ((S_laws_toIntS F p1_aOrder).bind fun r39 => ((S_impl_IsElimination F r33.1 r33.2 r39).bind fun r43 => (if (r43 != r28) = true then some false else ((S_laws_toGraph F p0_aG_Size p0_aG_Rows).bind fun r62 => ((S_laws_eqGraph F r33.1 r33.2 r62.1 r62.2).bind fun r64 => (if (!r64) = true then some false else ((S_laws_toIntS F p1_aOrder).bind fun r79 => ((S_laws_eqIntS F r39 r79).bind fun r81 => (if (!r81) = true then some false else some true))))))))))))))))

end Go.Proofs.Ytnlabnkgcncmlaa
