/- The functions of the laws of this seat, as printed. -/
import Derived.Test.YtkdkpfnglogpdaaVG3
set_option linter.unusedVariables false
open Go VM
def VF.slices_Sort_string_string (k : Nat) (a0 : List (List UInt8)) : Option (PUnit × List (List UInt8) × Unit) := runSortS a0
def VF.laws_szDealingS (k : Nat) (a0 : List (Int × Int × Int × Int × Unit)) (a1 : Int) : Option ((Int × Unit) × PUnit) :=
 sel (decide (IntKind.wrap IntKind.i64 (a1 - (List.length a0 : Int)) < 0)) (some ((-1, ()), ()))
 (some ((IntKind.wrap IntKind.i64 (a1 - (List.length a0 : Int)), ()), ()))
def VF.spec_l1In (k : Nat) (a0 : Int) (a1 : Int) (a2 : Int) : Option ((Bool × Unit) × PUnit) :=
 sel (decide (a1 ≤ a0)) (some ((decide (a0 ≤ a2), ()), ())) (some ((false, ()), ()))
def VF.spec_AreDealings.j0 (a0 : List (Int × Int × Int × Int × Unit)) (d : Unit) : Option ((Bool × Unit) × PUnit) :=
 some ((decide ((List.length a0 : Int) ≤ 20), ()), ())
def VF.spec_AreDealings.j1 (ih : Int → Option ((Bool × Unit) × PUnit)) (d : Int) : Option ((Bool × Unit) × PUnit) :=
 ih (IntKind.wrap IntKind.i64 (d + 1))
def VF.spec_AreDealings.l2 (k : Nat) (a0 : List (Int × Int × Int × Int × Unit)) (a1 : Int) (J : Unit → Option ((Bool × Unit) × PUnit)) (ih : Int → Option ((Bool × Unit) × PUnit)) (d : Int) : Option ((Bool × Unit) × PUnit) :=
 sel (decide (d < (List.length a0 : Int)))
 (join (VF.spec_AreDealings.j1 ih) fun (J : Int → Option ((Bool × Unit) × PUnit)) =>
 grd (inb a0 d)
 (bnd (VF.spec_l1In k (Prod.fst (rdL a0 d (0, 0, 0, 0, ()))) 0 (IntKind.wrap IntKind.i64 (a1 - 1))) fun (y : (Bool × Unit) × PUnit) =>
 sel (!Prod.fst (Prod.fst y)) (some ((false, ()), ()))
 (grd (inb a0 d)
 (bnd (VF.spec_l1In k (Prod.fst (Prod.snd (rdL a0 d (0, 0, 0, 0, ())))) 0 (IntKind.wrap IntKind.i64 (a1 - 1)))
 fun (y : (Bool × Unit) × PUnit) =>
 sel (!Prod.fst (Prod.fst y)) (some ((false, ()), ()))
 (grd (inb a0 d)
 (grd (inb a0 d)
 (sel (decide (Prod.fst (rdL a0 d (0, 0, 0, 0, ())) = Prod.fst (Prod.snd (rdL a0 d (0, 0, 0, 0, ()))))) (some ((false, ()), ()))
 (grd (inb a0 d)
 (bnd (VF.spec_l1In k (Prod.fst (Prod.snd (Prod.snd (rdL a0 d (0, 0, 0, 0, ()))))) 0 100000) fun (y : (Bool × Unit) × PUnit) =>
 sel (!Prod.fst (Prod.fst y)) (some ((false, ()), ()))
 (grd (inb a0 d)
 (grd (inb a0 d)
 (bnd
 (VF.spec_l1In k (Prod.fst (Prod.snd (Prod.snd (Prod.snd (rdL a0 d (0, 0, 0, 0, ())))))) 0
 (Prod.fst (Prod.snd (Prod.snd (rdL a0 d (0, 0, 0, 0, ()))))))
 fun (y : (Bool × Unit) × PUnit) => sel (!Prod.fst (Prod.fst y)) (some ((false, ()), ())) (J d)))))))))))))
 (J ())
def VF.spec_AreDealings (k : Nat) (a0 : List (Int × Int × Int × Int × Unit)) (a1 : Int) : Option ((Bool × Unit) × PUnit) :=
 bnd (VF.spec_l1In k a1 0 6) fun (y : (Bool × Unit) × PUnit) =>
 sel (!Prod.fst (Prod.fst y)) (some ((false, ()), ()))
 (join (VF.spec_AreDealings.j0 a0) fun (J : Unit → Option ((Bool × Unit) × PUnit)) => iter (VF.spec_AreDealings.l2 k a0 a1 J) k 0)
def VF.spec_l35Add.j0 (a1 : List UInt8) (d : Int × List (List UInt8 × Int × Unit) × List (List UInt8 × Int × Unit)) : Option ((List (List UInt8 × Int × Unit) × Unit) × PUnit) :=
 sel (!decide (Prod.fst d = 0))
 (grd (fits (List.length (Prod.fst (Prod.snd d)) + List.length [(a1, Prod.fst d, ())]) 24)
 (grd (fits (List.length (Prod.fst (Prod.snd d) ++ [(a1, Prod.fst d, ())]) + List.length (Prod.snd (Prod.snd d))) 24)
 (some ((Prod.fst (Prod.snd d) ++ [(a1, Prod.fst d, ())] ++ Prod.snd (Prod.snd d), ()), ()))))
 (grd (fits (List.length (Prod.fst (Prod.snd d)) + List.length (Prod.snd (Prod.snd d))) 24)
 (some ((Prod.fst (Prod.snd d) ++ Prod.snd (Prod.snd d), ()), ())))
def VF.spec_l35Add.j1 (a0 : List (List UInt8 × Int × Unit)) (a1 : List UInt8) (d : Int × Int) : Option ((List (List UInt8 × Int × Unit) × Unit) × PUnit) :=
 grd (decide (0 ≤ 0) && decide (0 ≤ Prod.snd d) && decide (Prod.snd d ≤ (List.length a0 : Int)))
 (grd (fits (0 + List.length (subL a0 0 (Prod.snd d))) 24)
 (grd (decide (0 ≤ Prod.snd d) && decide (Prod.snd d ≤ (List.length a0 : Int)) && decide ((List.length a0 : Int) ≤ (List.length a0 : Int)))
 (join (VF.spec_l35Add.j0 a1)
 fun (J : Int × List (List UInt8 × Int × Unit) × List (List UInt8 × Int × Unit) → Option ((List (List UInt8 × Int × Unit) × Unit) × PUnit)) =>
 sel (decide (0 < (List.length (subL a0 (Prod.snd d) (List.length a0 : Int)) : Int)))
 (grd (inb (subL a0 (Prod.snd d) (List.length a0 : Int)) 0)
 (sel (decide (Prod.fst (rdL (subL a0 (Prod.snd d) (List.length a0 : Int)) 0 ([], 0, ())) = a1))
 (grd (inb (subL a0 (Prod.snd d) (List.length a0 : Int)) 0)
 (grd
 (decide (0 ≤ 1) && decide (1 ≤ (List.length (subL a0 (Prod.snd d) (List.length a0 : Int)) : Int)) &&
 decide ((List.length (subL a0 (Prod.snd d) (List.length a0 : Int)) : Int) ≤ (List.length (subL a0 (Prod.snd d) (List.length a0 : Int)) : Int)))
 (J
 (IntKind.wrap IntKind.i64 (Prod.fst d + Prod.fst (Prod.snd (rdL (subL a0 (Prod.snd d) (List.length a0 : Int)) 0 ([], 0, ())))),
 [] ++ subL a0 0 (Prod.snd d),
 subL (subL a0 (Prod.snd d) (List.length a0 : Int)) 1 (List.length (subL a0 (Prod.snd d) (List.length a0 : Int)) : Int)))))
 (J (Prod.fst d, [] ++ subL a0 0 (Prod.snd d), subL a0 (Prod.snd d) (List.length a0 : Int)))))
 (J (Prod.fst d, [] ++ subL a0 0 (Prod.snd d), subL a0 (Prod.snd d) (List.length a0 : Int))))))
def VF.spec_l35Add.l2 (a0 : List (List UInt8 × Int × Unit)) (a1 : List UInt8) (J : Int × Int → Option ((List (List UInt8 × Int × Unit) × Unit) × PUnit)) (ih : Int × Int → Option ((List (List UInt8 × Int × Unit) × Unit) × PUnit)) (d : Int × Int) : Option ((List (List UInt8 × Int × Unit) × Unit) × PUnit) :=
 sel (decide (Prod.snd d < (List.length a0 : Int)))
 (grd (inb a0 (Prod.snd d))
 (sel (ltS (Prod.fst (rdL a0 (Prod.snd d) ([], 0, ()))) a1) (ih (Prod.fst d, IntKind.wrap IntKind.i64 (Prod.snd d + 1)))
 (J (Prod.fst d, Prod.snd d))))
 (J (Prod.fst d, Prod.snd d))
def VF.spec_l35Add (k : Nat) (a0 : List (List UInt8 × Int × Unit)) (a1 : List UInt8) (a2 : Int) : Option ((List (List UInt8 × Int × Unit) × Unit) × PUnit) :=
 join (VF.spec_l35Add.j1 a0 a1) fun (J : Int × Int → Option ((List (List UInt8 × Int × Unit) × Unit) × PUnit)) =>
 iter (VF.spec_l35Add.l2 a0 a1 J) k (a2, 0)
def VF.spec_FirmDealings.j0 (d : List (List UInt8 × Int × Unit)) : Option ((List (List UInt8 × Int × Unit) × Unit) × PUnit) :=
 some ((d, ()), ())
def VF.spec_FirmDealings.j1 (k : Nat) (a0 : List (Int × Int × Int × Int × Unit)) (a2 : Int) (ih : List (List UInt8 × Int × Unit) × Int → Option ((List (List UInt8 × Int × Unit) × Unit) × PUnit)) (d : List (List UInt8 × Int × Unit) × Int) : Option ((List (List UInt8 × Int × Unit) × Unit) × PUnit) :=
 grd (inb a0 (Prod.snd d))
 (sel (decide (Prod.fst (Prod.snd (rdL a0 (Prod.snd d) (0, 0, 0, 0, ()))) = a2))
 (grd (inb a0 (Prod.snd d))
 (bnd (VF.spec_l35Add k (Prod.fst d) (Array.toList #[67, 79, 83, 84]) (Prod.fst (Prod.snd (Prod.snd (rdL a0 (Prod.snd d) (0, 0, 0, 0, ()))))))
 fun (y : (List (List UInt8 × Int × Unit) × Unit) × PUnit) =>
 grd (inb a0 (Prod.snd d))
 (bnd
 (VF.spec_l35Add k (Prod.fst (Prod.fst y)) (Array.toList #[68, 69, 66, 84, 83])
 (IntKind.wrap IntKind.i64 (0 - Prod.fst (Prod.snd (Prod.snd (Prod.snd (rdL a0 (Prod.snd d) (0, 0, 0, 0, ()))))))))
 fun (y : (List (List UInt8 × Int × Unit) × Unit) × PUnit) =>
 grd (inb a0 (Prod.snd d))
 (grd (inb a0 (Prod.snd d))
 (bnd
 (VF.spec_l35Add k (Prod.fst (Prod.fst y)) (Array.toList #[67, 65, 83, 72])
 (IntKind.wrap IntKind.i64
 (Prod.fst (Prod.snd (Prod.snd (Prod.snd (rdL a0 (Prod.snd d) (0, 0, 0, 0, ()))))) -
 Prod.fst (Prod.snd (Prod.snd (rdL a0 (Prod.snd d) (0, 0, 0, 0, ())))))))
 fun (y : (List (List UInt8 × Int × Unit) × Unit) × PUnit) =>
 ih (Prod.fst (Prod.fst y), IntKind.wrap IntKind.i64 (Prod.snd d + 1)))))))
 (ih (Prod.fst d, IntKind.wrap IntKind.i64 (Prod.snd d + 1))))
def VF.spec_FirmDealings.l2 (k : Nat) (a0 : List (Int × Int × Int × Int × Unit)) (a1 : Int) (a2 : Int) (J : List (List UInt8 × Int × Unit) → Option ((List (List UInt8 × Int × Unit) × Unit) × PUnit)) (ih : List (List UInt8 × Int × Unit) × Int → Option ((List (List UInt8 × Int × Unit) × Unit) × PUnit)) (d : List (List UInt8 × Int × Unit) × Int) : Option ((List (List UInt8 × Int × Unit) × Unit) × PUnit) :=
 sel (decide (Prod.snd d < (List.length a0 : Int)))
 (bnd (VF.spec_AreDealings k a0 a1) fun (y : (Bool × Unit) × PUnit) =>
 sel (Prod.fst (Prod.fst y))
 (join (VF.spec_FirmDealings.j1 k a0 a2 ih)
 fun (J : List (List UInt8 × Int × Unit) × Int → Option ((List (List UInt8 × Int × Unit) × Unit) × PUnit)) =>
 grd (inb a0 (Prod.snd d))
 (sel (decide (Prod.fst (rdL a0 (Prod.snd d) (0, 0, 0, 0, ())) = a2))
 (grd (inb a0 (Prod.snd d))
 (bnd
 (VF.spec_l35Add k (Prod.fst d) (Array.toList #[83, 65, 76, 69, 83])
 (IntKind.wrap IntKind.i64 (0 - Prod.fst (Prod.snd (Prod.snd (rdL a0 (Prod.snd d) (0, 0, 0, 0, ())))))))
 fun (y : (List (List UInt8 × Int × Unit) × Unit) × PUnit) =>
 grd (inb a0 (Prod.snd d))
 (bnd
 (VF.spec_l35Add k (Prod.fst (Prod.fst y)) (Array.toList #[67, 76, 65, 73, 77, 83])
 (Prod.fst (Prod.snd (Prod.snd (Prod.snd (rdL a0 (Prod.snd d) (0, 0, 0, 0, ())))))))
 fun (y : (List (List UInt8 × Int × Unit) × Unit) × PUnit) =>
 grd (inb a0 (Prod.snd d))
 (grd (inb a0 (Prod.snd d))
 (bnd
 (VF.spec_l35Add k (Prod.fst (Prod.fst y)) (Array.toList #[67, 65, 83, 72])
 (IntKind.wrap IntKind.i64
 (Prod.fst (Prod.snd (Prod.snd (rdL a0 (Prod.snd d) (0, 0, 0, 0, ())))) -
 Prod.fst (Prod.snd (Prod.snd (Prod.snd (rdL a0 (Prod.snd d) (0, 0, 0, 0, ()))))))))
 fun (y : (List (List UInt8 × Int × Unit) × Unit) × PUnit) => J (Prod.fst (Prod.fst y), Prod.snd d))))))
 (J (Prod.fst d, Prod.snd d))))
 (J (Prod.fst d)))
 (J (Prod.fst d))
def VF.spec_FirmDealings (k : Nat) (a0 : List (Int × Int × Int × Int × Unit)) (a1 : Int) (a2 : Int) : Option ((List (List UInt8 × Int × Unit) × Unit) × PUnit) :=
 join VF.spec_FirmDealings.j0 fun (J : List (List UInt8 × Int × Unit) → Option ((List (List UInt8 × Int × Unit) × Unit) × PUnit)) =>
 iter (VF.spec_FirmDealings.l2 k a0 a1 a2 J) k ([], 0)
def VF.laws_toDealing (k : Nat) (a0 : Int × Int × Int × Int × Unit) : Option (((Int × Int × Int × Int × Unit) × Unit) × PUnit) :=
 some (((Prod.fst a0, Prod.fst (Prod.snd a0), Prod.fst (Prod.snd (Prod.snd a0)), Prod.fst (Prod.snd (Prod.snd (Prod.snd a0))), ()), ()), ())
def VF.laws_toDealingS.j0 (d : List (Int × Int × Int × Int × Unit)) : Option ((List (Int × Int × Int × Int × Unit) × Unit) × PUnit) :=
 some ((d, ()), ())
def VF.laws_toDealingS.l1 (k : Nat) (a0 : List (Int × Int × Int × Int × Unit)) (J : List (Int × Int × Int × Int × Unit) → Option ((List (Int × Int × Int × Int × Unit) × Unit) × PUnit)) (ih : List (Int × Int × Int × Int × Unit) × Int → Option ((List (Int × Int × Int × Int × Unit) × Unit) × PUnit)) (d : List (Int × Int × Int × Int × Unit) × Int) : Option ((List (Int × Int × Int × Int × Unit) × Unit) × PUnit) :=
 sel (decide (Prod.snd d < (List.length a0 : Int)))
 (grd (inb a0 (Prod.snd d))
 (bnd
 (VF.laws_toDealing k
 (Prod.fst (rdL a0 (Prod.snd d) (0, 0, 0, 0, ())), Prod.fst (Prod.snd (rdL a0 (Prod.snd d) (0, 0, 0, 0, ()))),
 Prod.fst (Prod.snd (Prod.snd (rdL a0 (Prod.snd d) (0, 0, 0, 0, ())))),
 Prod.fst (Prod.snd (Prod.snd (Prod.snd (rdL a0 (Prod.snd d) (0, 0, 0, 0, ()))))), ()))
 fun (y : ((Int × Int × Int × Int × Unit) × Unit) × PUnit) =>
 grd (inb (Prod.fst d) (Prod.snd d))
 (ih
 (wrL (Prod.fst d) (Prod.snd d)
 (Prod.fst (Prod.fst (Prod.fst y)), Prod.fst (Prod.snd (Prod.fst (Prod.fst y))), Prod.fst (Prod.snd (Prod.snd (Prod.fst (Prod.fst y)))),
 Prod.fst (Prod.snd (Prod.snd (Prod.snd (Prod.fst (Prod.fst y))))), ()),
 IntKind.wrap IntKind.i64 (Prod.snd d + 1)))))
 (J (Prod.fst d))
def VF.laws_toDealingS (k : Nat) (a0 : List (Int × Int × Int × Int × Unit)) : Option ((List (Int × Int × Int × Int × Unit) × Unit) × PUnit) :=
 grd (decide ((List.length a0 : Int) = (List.length a0 : Int)) && decide (0 ≤ (List.length a0 : Int)) && fits (Int.toNat (List.length a0 : Int)) 32)
 (join VF.laws_toDealingS.j0 fun (J : List (Int × Int × Int × Int × Unit) → Option ((List (Int × Int × Int × Int × Unit) × Unit) × PUnit)) =>
 iter (VF.laws_toDealingS.l1 k a0 J) k (List.replicate (Int.toNat (List.length a0 : Int)) (0, 0, 0, 0, ()), 0))
def VF.impl_in (k : Nat) (a0 : Int) (a1 : Int) (a2 : Int) : Option ((Bool × Unit) × PUnit) :=
 sel (decide (a1 ≤ a0)) (some ((decide (a0 ≤ a2), ()), ())) (some ((false, ()), ()))
def VF.impl_AreDealings.j0 (d : Unit) : Option ((Bool × Unit) × PUnit) :=
 some ((true, ()), ())
def VF.impl_AreDealings.j1 (ih : List (Int × Int × Int × Int × Unit) × Int × Int → Option ((Bool × Unit) × PUnit)) (d : List (Int × Int × Int × Int × Unit) × Int × Int) : Option ((Bool × Unit) × PUnit) :=
 ih (Prod.fst d, Prod.fst (Prod.snd d), IntKind.wrap IntKind.i64 (Prod.snd (Prod.snd d) + 1))
def VF.impl_AreDealings.l2 (k : Nat) (a1 : Int) (J : Unit → Option ((Bool × Unit) × PUnit)) (ih : List (Int × Int × Int × Int × Unit) × Int × Int → Option ((Bool × Unit) × PUnit)) (d : List (Int × Int × Int × Int × Unit) × Int × Int) : Option ((Bool × Unit) × PUnit) :=
 sel (decide (Prod.snd (Prod.snd d) < Prod.fst (Prod.snd d)))
 (join (VF.impl_AreDealings.j1 ih) fun (J : List (Int × Int × Int × Int × Unit) × Int × Int → Option ((Bool × Unit) × PUnit)) =>
 grd (inb (Prod.fst d) (Prod.snd (Prod.snd d)))
 (sel
 (decide
 (Prod.fst (rdL (Prod.fst d) (Prod.snd (Prod.snd d)) (0, 0, 0, 0, ())) =
 Prod.fst (Prod.snd (rdL (Prod.fst d) (Prod.snd (Prod.snd d)) (0, 0, 0, 0, ())))))
 (some ((false, ()), ()))
 (bnd (VF.impl_in k (Prod.fst (rdL (Prod.fst d) (Prod.snd (Prod.snd d)) (0, 0, 0, 0, ()))) 0 (IntKind.wrap IntKind.i64 (a1 - 1)))
 fun (y : (Bool × Unit) × PUnit) =>
 sel (!Prod.fst (Prod.fst y)) (some ((false, ()), ()))
 (bnd
 (VF.impl_in k (Prod.fst (Prod.snd (rdL (Prod.fst d) (Prod.snd (Prod.snd d)) (0, 0, 0, 0, ())))) 0 (IntKind.wrap IntKind.i64 (a1 - 1)))
 fun (y : (Bool × Unit) × PUnit) =>
 sel (!Prod.fst (Prod.fst y)) (some ((false, ()), ()))
 (bnd (VF.impl_in k (Prod.fst (Prod.snd (Prod.snd (rdL (Prod.fst d) (Prod.snd (Prod.snd d)) (0, 0, 0, 0, ()))))) 0 100000)
 fun (y : (Bool × Unit) × PUnit) =>
 sel (!Prod.fst (Prod.fst y)) (some ((false, ()), ()))
 (bnd
 (VF.impl_in k (Prod.fst (Prod.snd (Prod.snd (Prod.snd (rdL (Prod.fst d) (Prod.snd (Prod.snd d)) (0, 0, 0, 0, ())))))) 0
 (Prod.fst (Prod.snd (Prod.snd (rdL (Prod.fst d) (Prod.snd (Prod.snd d)) (0, 0, 0, 0, ()))))))
 fun (y : (Bool × Unit) × PUnit) =>
 sel (!Prod.fst (Prod.fst y)) (some ((false, ()), ())) (J (Prod.fst d, Prod.fst (Prod.snd d), Prod.snd (Prod.snd d)))))))))
 (J ())
def VF.impl_AreDealings.j3 (k : Nat) (a0 : List (Int × Int × Int × Int × Unit)) (a1 : Int) (d : Unit) : Option ((Bool × Unit) × PUnit) :=
 join VF.impl_AreDealings.j0 fun (J : Unit → Option ((Bool × Unit) × PUnit)) => iter (VF.impl_AreDealings.l2 k a1 J) k (a0, (List.length a0 : Int), 0)
def VF.impl_AreDealings (k : Nat) (a0 : List (Int × Int × Int × Int × Unit)) (a1 : Int) : Option ((Bool × Unit) × PUnit) :=
 join (VF.impl_AreDealings.j3 k a0 a1) fun (J : Unit → Option ((Bool × Unit) × PUnit)) =>
 bnd (VF.impl_in k a1 0 6) fun (y : (Bool × Unit) × PUnit) =>
 sel (!Prod.fst (Prod.fst y)) (some ((false, ()), ())) (sel (decide (20 < (List.length a0 : Int))) (some ((false, ()), ())) (J ()))
def VF.impl_totals.j0 (d : List (List UInt8 × Int × Unit)) : Option ((List (List UInt8 × Int × Unit) × Unit) × PUnit) :=
 some ((d, ()), ())
def VF.impl_totals.l1 (J : List (List UInt8 × Int × Unit) → Option ((List (List UInt8 × Int × Unit) × Unit) × PUnit)) (ih : List (List UInt8 × Int) × List (List UInt8 × Int × Unit) × List (List UInt8) × Int × Int → Option ((List (List UInt8 × Int × Unit) × Unit) × PUnit)) (d : List (List UInt8 × Int) × List (List UInt8 × Int × Unit) × List (List UInt8) × Int × Int) : Option ((List (List UInt8 × Int × Unit) × Unit) × PUnit) :=
 sel (decide (Prod.snd (Prod.snd (Prod.snd (Prod.snd d))) < Prod.fst (Prod.snd (Prod.snd (Prod.snd d)))))
 (grd (inb (Prod.fst (Prod.snd (Prod.snd d))) (Prod.snd (Prod.snd (Prod.snd (Prod.snd d)))))
 (sel (!decide (mfd (Prod.fst d) (rdL (Prod.fst (Prod.snd (Prod.snd d))) (Prod.snd (Prod.snd (Prod.snd (Prod.snd d)))) []) 0 = 0))
 (grd
 (fits
 (List.length (Prod.fst (Prod.snd d)) +
 List.length
 [(rdL (Prod.fst (Prod.snd (Prod.snd d))) (Prod.snd (Prod.snd (Prod.snd (Prod.snd d)))) [],
 mfd (Prod.fst d) (rdL (Prod.fst (Prod.snd (Prod.snd d))) (Prod.snd (Prod.snd (Prod.snd (Prod.snd d)))) []) 0, ())])
 24)
 (ih
 (Prod.fst d,
 Prod.fst (Prod.snd d) ++
 [(rdL (Prod.fst (Prod.snd (Prod.snd d))) (Prod.snd (Prod.snd (Prod.snd (Prod.snd d)))) [],
 mfd (Prod.fst d) (rdL (Prod.fst (Prod.snd (Prod.snd d))) (Prod.snd (Prod.snd (Prod.snd (Prod.snd d)))) []) 0, ())],
 Prod.fst (Prod.snd (Prod.snd d)), Prod.fst (Prod.snd (Prod.snd (Prod.snd d))),
 IntKind.wrap IntKind.i64 (Prod.snd (Prod.snd (Prod.snd (Prod.snd d))) + 1))))
 (ih
 (Prod.fst d, Prod.fst (Prod.snd d), Prod.fst (Prod.snd (Prod.snd d)), Prod.fst (Prod.snd (Prod.snd (Prod.snd d))),
 IntKind.wrap IntKind.i64 (Prod.snd (Prod.snd (Prod.snd (Prod.snd d))) + 1)))))
 (J (Prod.fst (Prod.snd d)))
def VF.impl_totals.j2 (k : Nat) (d : List (List UInt8 × Int) × List (List UInt8)) : Option ((List (List UInt8 × Int × Unit) × Unit) × PUnit) :=
 bnd (VF.slices_Sort_string_string k (Prod.snd d)) fun (y : PUnit × List (List UInt8) × Unit) =>
 join VF.impl_totals.j0 fun (J : List (List UInt8 × Int × Unit) → Option ((List (List UInt8 × Int × Unit) × Unit) × PUnit)) =>
 iter (VF.impl_totals.l1 J) k (Prod.fst d, [], Prod.fst (Prod.snd y), (List.length (Prod.fst (Prod.snd y)) : Int), 0)
def VF.impl_totals.l3 (J : List (List UInt8 × Int) × List (List UInt8) → Option ((List (List UInt8 × Int × Unit) × Unit) × PUnit)) (ih : List (List UInt8 × Int) × List (List UInt8) × List (List UInt8 × Int × Unit) × Int × Int → Option ((List (List UInt8 × Int × Unit) × Unit) × PUnit)) (d : List (List UInt8 × Int) × List (List UInt8) × List (List UInt8 × Int × Unit) × Int × Int) : Option ((List (List UInt8 × Int × Unit) × Unit) × PUnit) :=
 sel (decide (Prod.snd (Prod.snd (Prod.snd (Prod.snd d))) < Prod.fst (Prod.snd (Prod.snd (Prod.snd d)))))
 (grd (inb (Prod.fst (Prod.snd (Prod.snd d))) (Prod.snd (Prod.snd (Prod.snd (Prod.snd d)))))
 (sel (!mhas (Prod.fst d) (Prod.fst (rdL (Prod.fst (Prod.snd (Prod.snd d))) (Prod.snd (Prod.snd (Prod.snd (Prod.snd d)))) ([], 0, ()))))
 (grd
 (fits
 (List.length (Prod.fst (Prod.snd d)) +
 List.length [Prod.fst (rdL (Prod.fst (Prod.snd (Prod.snd d))) (Prod.snd (Prod.snd (Prod.snd (Prod.snd d)))) ([], 0, ()))])
 16)
 (ih
 (mput (Prod.fst d) (Prod.fst (rdL (Prod.fst (Prod.snd (Prod.snd d))) (Prod.snd (Prod.snd (Prod.snd (Prod.snd d)))) ([], 0, ())))
 (IntKind.wrap IntKind.i64
 (mfd (Prod.fst d) (Prod.fst (rdL (Prod.fst (Prod.snd (Prod.snd d))) (Prod.snd (Prod.snd (Prod.snd (Prod.snd d)))) ([], 0, ()))) 0 +
 Prod.fst (Prod.snd (rdL (Prod.fst (Prod.snd (Prod.snd d))) (Prod.snd (Prod.snd (Prod.snd (Prod.snd d)))) ([], 0, ()))))),
 Prod.fst (Prod.snd d) ++ [Prod.fst (rdL (Prod.fst (Prod.snd (Prod.snd d))) (Prod.snd (Prod.snd (Prod.snd (Prod.snd d)))) ([], 0, ()))],
 Prod.fst (Prod.snd (Prod.snd d)), Prod.fst (Prod.snd (Prod.snd (Prod.snd d))),
 IntKind.wrap IntKind.i64 (Prod.snd (Prod.snd (Prod.snd (Prod.snd d))) + 1))))
 (ih
 (mput (Prod.fst d) (Prod.fst (rdL (Prod.fst (Prod.snd (Prod.snd d))) (Prod.snd (Prod.snd (Prod.snd (Prod.snd d)))) ([], 0, ())))
 (IntKind.wrap IntKind.i64
 (mfd (Prod.fst d) (Prod.fst (rdL (Prod.fst (Prod.snd (Prod.snd d))) (Prod.snd (Prod.snd (Prod.snd (Prod.snd d)))) ([], 0, ()))) 0 +
 Prod.fst (Prod.snd (rdL (Prod.fst (Prod.snd (Prod.snd d))) (Prod.snd (Prod.snd (Prod.snd (Prod.snd d)))) ([], 0, ()))))),
 Prod.fst (Prod.snd d), Prod.fst (Prod.snd (Prod.snd d)), Prod.fst (Prod.snd (Prod.snd (Prod.snd d))),
 IntKind.wrap IntKind.i64 (Prod.snd (Prod.snd (Prod.snd (Prod.snd d))) + 1)))))
 (J (Prod.fst d, Prod.fst (Prod.snd d)))
def VF.impl_totals (k : Nat) (a0 : List (List UInt8 × Int × Unit)) : Option ((List (List UInt8 × Int × Unit) × Unit) × PUnit) :=
 join (VF.impl_totals.j2 k) fun (J : List (List UInt8 × Int) × List (List UInt8) → Option ((List (List UInt8 × Int × Unit) × Unit) × PUnit)) =>
 iter (VF.impl_totals.l3 J) k ([], [], a0, (List.length a0 : Int), 0)
def VF.impl_FirmDealings.j0 (k : Nat) (d : List (List UInt8 × Int × Unit)) : Option ((List (List UInt8 × Int × Unit) × Unit) × PUnit) :=
 bnd (VF.impl_totals k d) fun (y : (List (List UInt8 × Int × Unit) × Unit) × PUnit) => some ((Prod.fst (Prod.fst y), ()), ())
def VF.impl_FirmDealings.j1 (a2 : Int) (ih : List (List UInt8 × Int × Unit) × List (Int × Int × Int × Int × Unit) × Int × Int → Option ((List (List UInt8 × Int × Unit) × Unit) × PUnit)) (d : List (List UInt8 × Int × Unit) × (Int × Int × Int × Int) × List (Int × Int × Int × Int × Unit) × Int × Int) : Option ((List (List UInt8 × Int × Unit) × Unit) × PUnit) :=
 sel (decide (Prod.fst (Prod.snd (Prod.fst (Prod.snd d))) = a2))
 (grd
 (fits
 (List.length (Prod.fst d) +
 List.length
 [(Array.toList #[67, 79, 83, 84], Prod.fst (Prod.snd (Prod.snd (Prod.fst (Prod.snd d)))), ()),
 (Array.toList #[68, 69, 66, 84, 83], IntKind.wrap IntKind.i64 (0 - Prod.snd (Prod.snd (Prod.snd (Prod.fst (Prod.snd d))))), ()),
 (Array.toList #[67, 65, 83, 72],
 IntKind.wrap IntKind.i64
 (Prod.snd (Prod.snd (Prod.snd (Prod.fst (Prod.snd d)))) - Prod.fst (Prod.snd (Prod.snd (Prod.fst (Prod.snd d))))),
 ())])
 24)
 (ih
 (Prod.fst d ++
 [(Array.toList #[67, 79, 83, 84], Prod.fst (Prod.snd (Prod.snd (Prod.fst (Prod.snd d)))), ()),
 (Array.toList #[68, 69, 66, 84, 83], IntKind.wrap IntKind.i64 (0 - Prod.snd (Prod.snd (Prod.snd (Prod.fst (Prod.snd d))))), ()),
 (Array.toList #[67, 65, 83, 72],
 IntKind.wrap IntKind.i64
 (Prod.snd (Prod.snd (Prod.snd (Prod.fst (Prod.snd d)))) - Prod.fst (Prod.snd (Prod.snd (Prod.fst (Prod.snd d))))),
 ())],
 Prod.fst (Prod.snd (Prod.snd d)), Prod.fst (Prod.snd (Prod.snd (Prod.snd d))),
 IntKind.wrap IntKind.i64 (Prod.snd (Prod.snd (Prod.snd (Prod.snd d))) + 1))))
 (ih
 (Prod.fst d, Prod.fst (Prod.snd (Prod.snd d)), Prod.fst (Prod.snd (Prod.snd (Prod.snd d))),
 IntKind.wrap IntKind.i64 (Prod.snd (Prod.snd (Prod.snd (Prod.snd d))) + 1)))
def VF.impl_FirmDealings.l2 (a2 : Int) (J : List (List UInt8 × Int × Unit) → Option ((List (List UInt8 × Int × Unit) × Unit) × PUnit)) (ih : List (List UInt8 × Int × Unit) × List (Int × Int × Int × Int × Unit) × Int × Int → Option ((List (List UInt8 × Int × Unit) × Unit) × PUnit)) (d : List (List UInt8 × Int × Unit) × List (Int × Int × Int × Int × Unit) × Int × Int) : Option ((List (List UInt8 × Int × Unit) × Unit) × PUnit) :=
 sel (decide (Prod.snd (Prod.snd (Prod.snd d)) < Prod.fst (Prod.snd (Prod.snd d))))
 (grd (inb (Prod.fst (Prod.snd d)) (Prod.snd (Prod.snd (Prod.snd d))))
 (join (VF.impl_FirmDealings.j1 a2 ih)
 fun
 (J :
 List (List UInt8 × Int × Unit) × (Int × Int × Int × Int) × List (Int × Int × Int × Int × Unit) × Int × Int →
 Option ((List (List UInt8 × Int × Unit) × Unit) × PUnit)) =>
 sel (decide (Prod.fst (rdL (Prod.fst (Prod.snd d)) (Prod.snd (Prod.snd (Prod.snd d))) (0, 0, 0, 0, ())) = a2))
 (grd
 (fits
 (List.length (Prod.fst d) +
 List.length
 [(Array.toList #[83, 65, 76, 69, 83],
 IntKind.wrap IntKind.i64
 (0 - Prod.fst (Prod.snd (Prod.snd (rdL (Prod.fst (Prod.snd d)) (Prod.snd (Prod.snd (Prod.snd d))) (0, 0, 0, 0, ()))))),
 ()),
 (Array.toList #[67, 76, 65, 73, 77, 83],
 Prod.fst (Prod.snd (Prod.snd (Prod.snd (rdL (Prod.fst (Prod.snd d)) (Prod.snd (Prod.snd (Prod.snd d))) (0, 0, 0, 0, ()))))), ()),
 (Array.toList #[67, 65, 83, 72],
 IntKind.wrap IntKind.i64
 (Prod.fst (Prod.snd (Prod.snd (rdL (Prod.fst (Prod.snd d)) (Prod.snd (Prod.snd (Prod.snd d))) (0, 0, 0, 0, ())))) -
 Prod.fst (Prod.snd (Prod.snd (Prod.snd (rdL (Prod.fst (Prod.snd d)) (Prod.snd (Prod.snd (Prod.snd d))) (0, 0, 0, 0, ())))))),
 ())])
 24)
 (J
 (Prod.fst d ++
 [(Array.toList #[83, 65, 76, 69, 83],
 IntKind.wrap IntKind.i64
 (0 - Prod.fst (Prod.snd (Prod.snd (rdL (Prod.fst (Prod.snd d)) (Prod.snd (Prod.snd (Prod.snd d))) (0, 0, 0, 0, ()))))),
 ()),
 (Array.toList #[67, 76, 65, 73, 77, 83],
 Prod.fst (Prod.snd (Prod.snd (Prod.snd (rdL (Prod.fst (Prod.snd d)) (Prod.snd (Prod.snd (Prod.snd d))) (0, 0, 0, 0, ()))))), ()),
 (Array.toList #[67, 65, 83, 72],
 IntKind.wrap IntKind.i64
 (Prod.fst (Prod.snd (Prod.snd (rdL (Prod.fst (Prod.snd d)) (Prod.snd (Prod.snd (Prod.snd d))) (0, 0, 0, 0, ())))) -
 Prod.fst (Prod.snd (Prod.snd (Prod.snd (rdL (Prod.fst (Prod.snd d)) (Prod.snd (Prod.snd (Prod.snd d))) (0, 0, 0, 0, ())))))),
 ())],
 (Prod.fst (rdL (Prod.fst (Prod.snd d)) (Prod.snd (Prod.snd (Prod.snd d))) (0, 0, 0, 0, ())),
 Prod.fst (Prod.snd (rdL (Prod.fst (Prod.snd d)) (Prod.snd (Prod.snd (Prod.snd d))) (0, 0, 0, 0, ()))),
 Prod.fst (Prod.snd (Prod.snd (rdL (Prod.fst (Prod.snd d)) (Prod.snd (Prod.snd (Prod.snd d))) (0, 0, 0, 0, ())))),
 Prod.fst (Prod.snd (Prod.snd (Prod.snd (rdL (Prod.fst (Prod.snd d)) (Prod.snd (Prod.snd (Prod.snd d))) (0, 0, 0, 0, ())))))),
 Prod.fst (Prod.snd d), Prod.fst (Prod.snd (Prod.snd d)), Prod.snd (Prod.snd (Prod.snd d)))))
 (J
 (Prod.fst d,
 (Prod.fst (rdL (Prod.fst (Prod.snd d)) (Prod.snd (Prod.snd (Prod.snd d))) (0, 0, 0, 0, ())),
 Prod.fst (Prod.snd (rdL (Prod.fst (Prod.snd d)) (Prod.snd (Prod.snd (Prod.snd d))) (0, 0, 0, 0, ()))),
 Prod.fst (Prod.snd (Prod.snd (rdL (Prod.fst (Prod.snd d)) (Prod.snd (Prod.snd (Prod.snd d))) (0, 0, 0, 0, ())))),
 Prod.fst (Prod.snd (Prod.snd (Prod.snd (rdL (Prod.fst (Prod.snd d)) (Prod.snd (Prod.snd (Prod.snd d))) (0, 0, 0, 0, ())))))),
 Prod.fst (Prod.snd d), Prod.fst (Prod.snd (Prod.snd d)), Prod.snd (Prod.snd (Prod.snd d))))))
 (J (Prod.fst d))
def VF.impl_FirmDealings (k : Nat) (a0 : List (Int × Int × Int × Int × Unit)) (a1 : Int) (a2 : Int) : Option ((List (List UInt8 × Int × Unit) × Unit) × PUnit) :=
 bnd (VF.impl_AreDealings k a0 a1) fun (y : (Bool × Unit) × PUnit) =>
 sel (!Prod.fst (Prod.fst y)) (some (([], ()), ()))
 (join (VF.impl_FirmDealings.j0 k) fun (J : List (List UInt8 × Int × Unit) → Option ((List (List UInt8 × Int × Unit) × Unit) × PUnit)) =>
 iter (VF.impl_FirmDealings.l2 a2 J) k ([], a0, (List.length a0 : Int), 0))
def VF.laws_eqEntry (k : Nat) (a0 : List UInt8 × Int × Unit) (a1 : List UInt8 × Int × Unit) : Option ((Bool × Unit) × PUnit) :=
 sel (!decide (Prod.fst a0 = Prod.fst a1)) (some ((false, ()), ()))
 (sel (!decide (Prod.fst (Prod.snd a0) = Prod.fst (Prod.snd a1))) (some ((false, ()), ())) (some ((true, ()), ())))
def VF.laws_eqEntryS.j0 (d : Unit) : Option ((Bool × Unit) × PUnit) :=
 some ((true, ()), ())
def VF.laws_eqEntryS.l1 (k : Nat) (a0 : List (List UInt8 × Int × Unit)) (a1 : List (List UInt8 × Int × Unit)) (J : Unit → Option ((Bool × Unit) × PUnit)) (ih : Int → Option ((Bool × Unit) × PUnit)) (d : Int) : Option ((Bool × Unit) × PUnit) :=
 sel (decide (d < (List.length a0 : Int)))
 (grd (inb a0 d)
 (grd (inb a1 d)
 (bnd
 (VF.laws_eqEntry k (Prod.fst (rdL a0 d ([], 0, ())), Prod.fst (Prod.snd (rdL a0 d ([], 0, ()))), ())
 (Prod.fst (rdL a1 d ([], 0, ())), Prod.fst (Prod.snd (rdL a1 d ([], 0, ()))), ()))
 fun (y : (Bool × Unit) × PUnit) => sel (!Prod.fst (Prod.fst y)) (some ((false, ()), ())) (ih (IntKind.wrap IntKind.i64 (d + 1))))))
 (J ())
def VF.laws_eqEntryS (k : Nat) (a0 : List (List UInt8 × Int × Unit)) (a1 : List (List UInt8 × Int × Unit)) : Option ((Bool × Unit) × PUnit) :=
 sel (!decide ((List.length a0 : Int) = (List.length a1 : Int))) (some ((false, ()), ()))
 (join VF.laws_eqEntryS.j0 fun (J : Unit → Option ((Bool × Unit) × PUnit)) => iter (VF.laws_eqEntryS.l1 k a0 a1 J) k 0)
def VF.laws_eqDealing (k : Nat) (a0 : Int × Int × Int × Int × Unit) (a1 : Int × Int × Int × Int × Unit) : Option ((Bool × Unit) × PUnit) :=
 sel (!decide (Prod.fst a0 = Prod.fst a1)) (some ((false, ()), ()))
 (sel (!decide (Prod.fst (Prod.snd a0) = Prod.fst (Prod.snd a1))) (some ((false, ()), ()))
 (sel (!decide (Prod.fst (Prod.snd (Prod.snd a0)) = Prod.fst (Prod.snd (Prod.snd a1)))) (some ((false, ()), ()))
 (sel (!decide (Prod.fst (Prod.snd (Prod.snd (Prod.snd a0))) = Prod.fst (Prod.snd (Prod.snd (Prod.snd a1))))) (some ((false, ()), ()))
 (some ((true, ()), ())))))
def VF.laws_eqDealingS.j0 (d : Unit) : Option ((Bool × Unit) × PUnit) :=
 some ((true, ()), ())
def VF.laws_eqDealingS.l1 (k : Nat) (a0 : List (Int × Int × Int × Int × Unit)) (a1 : List (Int × Int × Int × Int × Unit)) (J : Unit → Option ((Bool × Unit) × PUnit)) (ih : Int → Option ((Bool × Unit) × PUnit)) (d : Int) : Option ((Bool × Unit) × PUnit) :=
 sel (decide (d < (List.length a0 : Int)))
 (grd (inb a0 d)
 (grd (inb a1 d)
 (bnd
 (VF.laws_eqDealing k
 (Prod.fst (rdL a0 d (0, 0, 0, 0, ())), Prod.fst (Prod.snd (rdL a0 d (0, 0, 0, 0, ()))),
 Prod.fst (Prod.snd (Prod.snd (rdL a0 d (0, 0, 0, 0, ())))), Prod.fst (Prod.snd (Prod.snd (Prod.snd (rdL a0 d (0, 0, 0, 0, ()))))), ())
 (Prod.fst (rdL a1 d (0, 0, 0, 0, ())), Prod.fst (Prod.snd (rdL a1 d (0, 0, 0, 0, ()))),
 Prod.fst (Prod.snd (Prod.snd (rdL a1 d (0, 0, 0, 0, ())))), Prod.fst (Prod.snd (Prod.snd (Prod.snd (rdL a1 d (0, 0, 0, 0, ()))))), ()))
 fun (y : (Bool × Unit) × PUnit) => sel (!Prod.fst (Prod.fst y)) (some ((false, ()), ())) (ih (IntKind.wrap IntKind.i64 (d + 1))))))
 (J ())
def VF.laws_eqDealingS (k : Nat) (a0 : List (Int × Int × Int × Int × Unit)) (a1 : List (Int × Int × Int × Int × Unit)) : Option ((Bool × Unit) × PUnit) :=
 sel (!decide ((List.length a0 : Int) = (List.length a1 : Int))) (some ((false, ()), ()))
 (join VF.laws_eqDealingS.j0 fun (J : Unit → Option ((Bool × Unit) × PUnit)) => iter (VF.laws_eqDealingS.l1 k a0 a1 J) k 0)
def VF.laws_markDealingS.j0 (d : List (Int × Int × Int × Int × Unit) × Int) : Option ((Int × Unit) × List (Int × Int × Int × Int × Unit) × Unit) :=
 some ((Prod.snd d, ()), Prod.fst d, ())
def VF.laws_markDealingS.j1 (ih : List (Int × Int × Int × Int × Unit) × Int × Int → Option ((Int × Unit) × List (Int × Int × Int × Int × Unit) × Unit)) (d : List (Int × Int × Int × Int × Unit) × Int × Int) : Option ((Int × Unit) × List (Int × Int × Int × Int × Unit) × Unit) :=
 grd (inb (Prod.fst d) (Prod.snd (Prod.snd d)))
 (ih
 (wrL (Prod.fst d) (Prod.snd (Prod.snd d))
 (Prod.fst (rdL (Prod.fst d) (Prod.snd (Prod.snd d)) (0, 0, 0, 0, ())),
 Prod.fst (Prod.snd (rdL (Prod.fst d) (Prod.snd (Prod.snd d)) (0, 0, 0, 0, ()))),
 Prod.fst (Prod.snd (Prod.snd (rdL (Prod.fst d) (Prod.snd (Prod.snd d)) (0, 0, 0, 0, ())))),
 IntKind.wrap IntKind.i64 (Prod.fst (Prod.snd d) + 1),
 Prod.snd (Prod.snd (Prod.snd (Prod.snd (rdL (Prod.fst d) (Prod.snd (Prod.snd d)) (0, 0, 0, 0, ())))))),
 IntKind.wrap IntKind.i64 (IntKind.wrap IntKind.i64 (Prod.fst (Prod.snd d) + 1) + 1), IntKind.wrap IntKind.i64 (Prod.snd (Prod.snd d) + 1)))
def VF.laws_markDealingS.j2 (ih : List (Int × Int × Int × Int × Unit) × Int × Int → Option ((Int × Unit) × List (Int × Int × Int × Int × Unit) × Unit)) (d : List (Int × Int × Int × Int × Unit) × Int × Int) : Option ((Int × Unit) × List (Int × Int × Int × Int × Unit) × Unit) :=
 join (VF.laws_markDealingS.j1 ih)
 fun (J : List (Int × Int × Int × Int × Unit) × Int × Int → Option ((Int × Unit) × List (Int × Int × Int × Int × Unit) × Unit)) =>
 grd (inb (Prod.fst d) (Prod.snd (Prod.snd d)))
 (J
 (wrL (Prod.fst d) (Prod.snd (Prod.snd d))
 (Prod.fst (rdL (Prod.fst d) (Prod.snd (Prod.snd d)) (0, 0, 0, 0, ())),
 Prod.fst (Prod.snd (rdL (Prod.fst d) (Prod.snd (Prod.snd d)) (0, 0, 0, 0, ()))), IntKind.wrap IntKind.i64 (Prod.fst (Prod.snd d) + 1),
 Prod.snd (Prod.snd (Prod.snd (rdL (Prod.fst d) (Prod.snd (Prod.snd d)) (0, 0, 0, 0, ()))))),
 IntKind.wrap IntKind.i64 (Prod.fst (Prod.snd d) + 1), Prod.snd (Prod.snd d)))
def VF.laws_markDealingS.j3 (ih : List (Int × Int × Int × Int × Unit) × Int × Int → Option ((Int × Unit) × List (Int × Int × Int × Int × Unit) × Unit)) (d : List (Int × Int × Int × Int × Unit) × Int × Int) : Option ((Int × Unit) × List (Int × Int × Int × Int × Unit) × Unit) :=
 join (VF.laws_markDealingS.j2 ih)
 fun (J : List (Int × Int × Int × Int × Unit) × Int × Int → Option ((Int × Unit) × List (Int × Int × Int × Int × Unit) × Unit)) =>
 grd (inb (Prod.fst d) (Prod.snd (Prod.snd d)))
 (J
 (wrL (Prod.fst d) (Prod.snd (Prod.snd d))
 (Prod.fst (rdL (Prod.fst d) (Prod.snd (Prod.snd d)) (0, 0, 0, 0, ())), IntKind.wrap IntKind.i64 (Prod.fst (Prod.snd d) + 1),
 Prod.snd (Prod.snd (rdL (Prod.fst d) (Prod.snd (Prod.snd d)) (0, 0, 0, 0, ())))),
 IntKind.wrap IntKind.i64 (Prod.fst (Prod.snd d) + 1), Prod.snd (Prod.snd d)))
def VF.laws_markDealingS.l4 (J : List (Int × Int × Int × Int × Unit) × Int → Option ((Int × Unit) × List (Int × Int × Int × Int × Unit) × Unit)) (ih : List (Int × Int × Int × Int × Unit) × Int × Int → Option ((Int × Unit) × List (Int × Int × Int × Int × Unit) × Unit)) (d : List (Int × Int × Int × Int × Unit) × Int × Int) : Option ((Int × Unit) × List (Int × Int × Int × Int × Unit) × Unit) :=
 sel (decide (Prod.snd (Prod.snd d) < (List.length (Prod.fst d) : Int)))
 (join (VF.laws_markDealingS.j3 ih)
 fun (J : List (Int × Int × Int × Int × Unit) × Int × Int → Option ((Int × Unit) × List (Int × Int × Int × Int × Unit) × Unit)) =>
 grd (inb (Prod.fst d) (Prod.snd (Prod.snd d)))
 (J
 (wrL (Prod.fst d) (Prod.snd (Prod.snd d)) (Prod.fst (Prod.snd d), Prod.snd (rdL (Prod.fst d) (Prod.snd (Prod.snd d)) (0, 0, 0, 0, ()))),
 Prod.fst (Prod.snd d), Prod.snd (Prod.snd d))))
 (J (Prod.fst d, Prod.fst (Prod.snd d)))
def VF.laws_markDealingS (k : Nat) (a0 : List (Int × Int × Int × Int × Unit)) (a1 : Int) : Option ((Int × Unit) × List (Int × Int × Int × Int × Unit) × Unit) :=
 join VF.laws_markDealingS.j0
 fun (J : List (Int × Int × Int × Int × Unit) × Int → Option ((Int × Unit) × List (Int × Int × Int × Int × Unit) × Unit)) =>
 iter (VF.laws_markDealingS.l4 J) k (a0, a1, 0)
def VF.laws_markText.j0 (d : List UInt8) : Option ((List UInt8 × Unit) × PUnit) :=
 grd (decide (List.length (Array.toList #[109]) + List.length d ≤ 4611686018427387904)) (some ((Array.toList #[109] ++ d, ()), ()))
def VF.laws_markText.l1 (J : List UInt8 → Option ((List UInt8 × Unit) × PUnit)) (ih : Int × List UInt8 → Option ((List UInt8 × Unit) × PUnit)) (d : Int × List UInt8) : Option ((List UInt8 × Unit) × PUnit) :=
 sel (decide (0 < Prod.fst d))
 (grd
 (decide
 (List.length (bytesOf [IntKind.wrap IntKind.u8 (IntKind.wrap IntKind.i64 (48 + Int.tmod (Prod.fst d) 10))]) + List.length (Prod.snd d) ≤
 4611686018427387904))
 (ih
 (IntKind.wrap IntKind.i64 (Int.tdiv (Prod.fst d) 10),
 bytesOf [IntKind.wrap IntKind.u8 (IntKind.wrap IntKind.i64 (48 + Int.tmod (Prod.fst d) 10))] ++ Prod.snd d)))
 (J (Prod.snd d))
def VF.laws_markText (k : Nat) (a0 : Int) : Option ((List UInt8 × Unit) × PUnit) :=
 sel (decide (a0 ≤ 0)) (some ((Array.toList #[109, 48], ()), ()))
 (join VF.laws_markText.j0 fun (J : List UInt8 → Option ((List UInt8 × Unit) × PUnit)) => iter (VF.laws_markText.l1 J) k (a0, Array.toList #[]))
def VF.laws_markEntryS.j0 (d : List (List UInt8 × Int × Unit) × Int) : Option ((Int × Unit) × List (List UInt8 × Int × Unit) × Unit) :=
 some ((Prod.snd d, ()), Prod.fst d, ())
def VF.laws_markEntryS.j1 (ih : List (List UInt8 × Int × Unit) × Int × Int → Option ((Int × Unit) × List (List UInt8 × Int × Unit) × Unit)) (d : List (List UInt8 × Int × Unit) × Int × Int) : Option ((Int × Unit) × List (List UInt8 × Int × Unit) × Unit) :=
 grd (inb (Prod.fst d) (Prod.snd (Prod.snd d)))
 (ih
 (wrL (Prod.fst d) (Prod.snd (Prod.snd d))
 (Prod.fst (rdL (Prod.fst d) (Prod.snd (Prod.snd d)) ([], 0, ())), IntKind.wrap IntKind.i64 (Prod.fst (Prod.snd d) + 1),
 Prod.snd (Prod.snd (rdL (Prod.fst d) (Prod.snd (Prod.snd d)) ([], 0, ())))),
 IntKind.wrap IntKind.i64 (IntKind.wrap IntKind.i64 (Prod.fst (Prod.snd d) + 1) + 1), IntKind.wrap IntKind.i64 (Prod.snd (Prod.snd d) + 1)))
def VF.laws_markEntryS.l2 (k : Nat) (J : List (List UInt8 × Int × Unit) × Int → Option ((Int × Unit) × List (List UInt8 × Int × Unit) × Unit)) (ih : List (List UInt8 × Int × Unit) × Int × Int → Option ((Int × Unit) × List (List UInt8 × Int × Unit) × Unit)) (d : List (List UInt8 × Int × Unit) × Int × Int) : Option ((Int × Unit) × List (List UInt8 × Int × Unit) × Unit) :=
 sel (decide (Prod.snd (Prod.snd d) < (List.length (Prod.fst d) : Int)))
 (join (VF.laws_markEntryS.j1 ih)
 fun (J : List (List UInt8 × Int × Unit) × Int × Int → Option ((Int × Unit) × List (List UInt8 × Int × Unit) × Unit)) =>
 bnd (VF.laws_markText k (Prod.fst (Prod.snd d))) fun (y : (List UInt8 × Unit) × PUnit) =>
 grd (inb (Prod.fst d) (Prod.snd (Prod.snd d)))
 (J
 (wrL (Prod.fst d) (Prod.snd (Prod.snd d)) (Prod.fst (Prod.fst y), Prod.snd (rdL (Prod.fst d) (Prod.snd (Prod.snd d)) ([], 0, ()))),
 Prod.fst (Prod.snd d), Prod.snd (Prod.snd d))))
 (J (Prod.fst d, Prod.fst (Prod.snd d)))
def VF.laws_markEntryS (k : Nat) (a0 : List (List UInt8 × Int × Unit)) (a1 : Int) : Option ((Int × Unit) × List (List UInt8 × Int × Unit) × Unit) :=
 join VF.laws_markEntryS.j0 fun (J : List (List UInt8 × Int × Unit) × Int → Option ((Int × Unit) × List (List UInt8 × Int × Unit) × Unit)) =>
 iter (VF.laws_markEntryS.l2 k J) k (a0, a1, 0)
def VF.laws_heldEntryS.j0 (d : Int) : Option ((Int × Unit) × PUnit) :=
 some ((d, ()), ())
def VF.laws_heldEntryS.l1 (k : Nat) (a0 : List (List UInt8 × Int × Unit)) (J : Int → Option ((Int × Unit) × PUnit)) (ih : Int × Int → Option ((Int × Unit) × PUnit)) (d : Int × Int) : Option ((Int × Unit) × PUnit) :=
 sel (decide (Prod.snd d < (List.length a0 : Int)))
 (grd (inb a0 (Prod.snd d))
 (bnd (VF.laws_markText k (Prod.fst d)) fun (y : (List UInt8 × Unit) × PUnit) =>
 sel (!decide (Prod.fst (rdL a0 (Prod.snd d) ([], 0, ())) = Prod.fst (Prod.fst y))) (some ((-1, ()), ()))
 (grd (inb a0 (Prod.snd d))
 (sel (!decide (Prod.fst (Prod.snd (rdL a0 (Prod.snd d) ([], 0, ()))) = IntKind.wrap IntKind.i64 (Prod.fst d + 1))) (some ((-1, ()), ()))
 (ih (IntKind.wrap IntKind.i64 (IntKind.wrap IntKind.i64 (Prod.fst d + 1) + 1), IntKind.wrap IntKind.i64 (Prod.snd d + 1)))))))
 (J (Prod.fst d))
def VF.laws_heldEntryS (k : Nat) (a0 : List (List UInt8 × Int × Unit)) (a1 : Int) : Option ((Int × Unit) × PUnit) :=
 join VF.laws_heldEntryS.j0 fun (J : Int → Option ((Int × Unit) × PUnit)) => iter (VF.laws_heldEntryS.l1 k a0 J) k (a1, 0)
def VF.laws_FnExactFirmDealings.j0 (k : Nat) (a0 : List (Int × Int × Int × Int × Unit)) (a1 : Int) (a2 : Int) (d : List (List UInt8 × Int × Unit) × List (List UInt8 × Int × Unit)) : Option ((Bool × Unit) × PUnit) :=
 bnd (VF.laws_markEntryS k (Prod.snd d) 1) fun (y : (Int × Unit) × List (List UInt8 × Int × Unit) × Unit) =>
 bnd (VF.laws_heldEntryS k (Prod.fst (Prod.snd y)) 1) fun (y_1 : (Int × Unit) × PUnit) =>
 sel (decide (Prod.fst (Prod.fst y_1) < 0)) (some ((false, ()), ()))
 (sel (!decide (Prod.fst (Prod.fst y_1) = Prod.fst (Prod.fst y))) (some ((false, ()), ()))
 (bnd (VF.laws_toDealingS k a0) fun (y_2 : (List (Int × Int × Int × Int × Unit) × Unit) × PUnit) =>
 bnd (VF.impl_FirmDealings k (Prod.fst (Prod.fst y_2)) a1 a2) fun (y_3 : (List (List UInt8 × Int × Unit) × Unit) × PUnit) =>
 bnd (VF.laws_eqEntryS k (Prod.fst (Prod.fst y_3)) (Prod.fst d)) fun (y_4 : (Bool × Unit) × PUnit) =>
 sel (!Prod.fst (Prod.fst y_4)) (some ((false, ()), ()))
 (bnd (VF.laws_heldEntryS k (Prod.fst (Prod.snd y)) 1) fun (y_5 : (Int × Unit) × PUnit) =>
 sel (decide (Prod.fst (Prod.fst y_5) < 0)) (some ((false, ()), ()))
 (sel (!decide (Prod.fst (Prod.fst y_5) = Prod.fst (Prod.fst y))) (some ((false, ()), ())) (some ((true, ()), ()))))))
def VF.laws_FnExactFirmDealings (k : Nat) (a0 : List (Int × Int × Int × Int × Unit)) (a1 : Int) (a2 : Int) : Option ((Bool × Unit) × PUnit) :=
 bnd (VF.laws_szDealingS k a0 1048576) fun (y : (Int × Unit) × PUnit) =>
 sel (decide (Prod.fst (Prod.fst y) < 0)) (some ((true, ()), ()))
 (bnd (VF.laws_toDealingS k a0) fun (y : (List (Int × Int × Int × Int × Unit) × Unit) × PUnit) =>
 bnd (VF.spec_FirmDealings k (Prod.fst (Prod.fst y)) a1 a2) fun (y : (List (List UInt8 × Int × Unit) × Unit) × PUnit) =>
 bnd (VF.laws_toDealingS k a0) fun (y_1 : (List (Int × Int × Int × Int × Unit) × Unit) × PUnit) =>
 bnd (VF.impl_FirmDealings k (Prod.fst (Prod.fst y_1)) a1 a2) fun (y_2 : (List (List UInt8 × Int × Unit) × Unit) × PUnit) =>
 bnd (VF.laws_eqEntryS k (Prod.fst (Prod.fst y_2)) (Prod.fst (Prod.fst y))) fun (y_3 : (Bool × Unit) × PUnit) =>
 sel (!Prod.fst (Prod.fst y_3)) (some ((false, ()), ()))
 (bnd (VF.laws_toDealingS k a0) fun (y_4 : (List (Int × Int × Int × Int × Unit) × Unit) × PUnit) =>
 bnd (VF.laws_eqDealingS k (Prod.fst (Prod.fst y_1)) (Prod.fst (Prod.fst y_4))) fun (y_5 : (Bool × Unit) × PUnit) =>
 sel (!Prod.fst (Prod.fst y_5)) (some ((false, ()), ()))
 (bnd (VF.laws_markDealingS k (Prod.fst (Prod.fst y_1)) 1)
 fun (y_6 : (Int × Unit) × List (Int × Int × Int × Int × Unit) × Unit) =>
 join (VF.laws_FnExactFirmDealings.j0 k a0 a1 a2)
 fun (J : List (List UInt8 × Int × Unit) × List (List UInt8 × Int × Unit) → Option ((Bool × Unit) × PUnit)) =>
 sel (decide (Prod.fst (Prod.fst y_6) < 0)) (some ((false, ()), ()))
 (bnd (VF.laws_eqEntryS k (Prod.fst (Prod.fst y_2)) (Prod.fst (Prod.fst y))) fun (y_7 : (Bool × Unit) × PUnit) =>
 sel (!Prod.fst (Prod.fst y_7)) (some ((false, ()), ())) (J (Prod.fst (Prod.fst y), Prod.fst (Prod.fst y_2)))))))
def VF.laws_szEntry (k : Nat) (a0 : List UInt8 × Int × Unit) (a1 : Int) : Option ((Int × Unit) × PUnit) :=
 sel (decide (IntKind.wrap IntKind.i64 (a1 - (List.length (Prod.fst a0) : Int)) < 0)) (some ((-1, ()), ()))
 (some ((IntKind.wrap IntKind.i64 (a1 - (List.length (Prod.fst a0) : Int)), ()), ()))
def VF.laws_szEntryS.j0 (d : Int) : Option ((Int × Unit) × PUnit) :=
 some ((d, ()), ())
def VF.laws_szEntryS.l1 (k : Nat) (a0 : List (List UInt8 × Int × Unit)) (J : Int → Option ((Int × Unit) × PUnit)) (ih : Int × Int → Option ((Int × Unit) × PUnit)) (d : Int × Int) : Option ((Int × Unit) × PUnit) :=
 sel (decide (Prod.snd d < (List.length a0 : Int)))
 (grd (inb a0 (Prod.snd d))
 (bnd (VF.laws_szEntry k (Prod.fst (rdL a0 (Prod.snd d) ([], 0, ())), Prod.fst (Prod.snd (rdL a0 (Prod.snd d) ([], 0, ()))), ()) (Prod.fst d))
 fun (y : (Int × Unit) × PUnit) =>
 sel (decide (Prod.fst (Prod.fst y) < 0)) (some ((-1, ()), ())) (ih (Prod.fst (Prod.fst y), IntKind.wrap IntKind.i64 (Prod.snd d + 1)))))
 (J (Prod.fst d))
def VF.laws_szEntryS (k : Nat) (a0 : List (List UInt8 × Int × Unit)) (a1 : Int) : Option ((Int × Unit) × PUnit) :=
 sel (decide (IntKind.wrap IntKind.i64 (a1 - (List.length a0 : Int)) < 0)) (some ((-1, ()), ()))
 (join VF.laws_szEntryS.j0 fun (J : Int → Option ((Int × Unit) × PUnit)) =>
 iter (VF.laws_szEntryS.l1 k a0 J) k (IntKind.wrap IntKind.i64 (a1 - (List.length a0 : Int)), 0))
def VF.laws_szEntrySS.j0 (d : Int) : Option ((Int × Unit) × PUnit) :=
 some ((d, ()), ())
def VF.laws_szEntrySS.l1 (k : Nat) (a0 : List (List (List UInt8 × Int × Unit))) (J : Int → Option ((Int × Unit) × PUnit)) (ih : Int × Int → Option ((Int × Unit) × PUnit)) (d : Int × Int) : Option ((Int × Unit) × PUnit) :=
 sel (decide (Prod.snd d < (List.length a0 : Int)))
 (grd (inb a0 (Prod.snd d))
 (bnd (VF.laws_szEntryS k (rdL a0 (Prod.snd d) []) (Prod.fst d)) fun (y : (Int × Unit) × PUnit) =>
 sel (decide (Prod.fst (Prod.fst y) < 0)) (some ((-1, ()), ())) (ih (Prod.fst (Prod.fst y), IntKind.wrap IntKind.i64 (Prod.snd d + 1)))))
 (J (Prod.fst d))
def VF.laws_szEntrySS (k : Nat) (a0 : List (List (List UInt8 × Int × Unit))) (a1 : Int) : Option ((Int × Unit) × PUnit) :=
 sel (decide (IntKind.wrap IntKind.i64 (a1 - (List.length a0 : Int)) < 0)) (some ((-1, ()), ()))
 (join VF.laws_szEntrySS.j0 fun (J : Int → Option ((Int × Unit) × PUnit)) =>
 iter (VF.laws_szEntrySS.l1 k a0 J) k (IntKind.wrap IntKind.i64 (a1 - (List.length a0 : Int)), 0))
def VF.spec_IsCode.j0 (a0 : List UInt8) (d : Unit) : Option ((Bool × Unit) × PUnit) :=
 sel (decide (1 ≤ (List.length a0 : Int))) (some ((decide ((List.length a0 : Int) ≤ 8), ()), ())) (some ((false, ()), ()))
def VF.spec_IsCode.j1 (ih : Int → Option ((Bool × Unit) × PUnit)) (d : Int) : Option ((Bool × Unit) × PUnit) :=
 ih (IntKind.wrap IntKind.i64 (d + 1))
def VF.spec_IsCode.j2 (a0 : List UInt8) (J : Int → Option ((Bool × Unit) × PUnit)) (d : Int × Bool) : Option ((Bool × Unit) × PUnit) :=
 sel (!Prod.snd d)
 (sel (decide (Prod.fst d = 0)) (some ((false, ()), ()))
 (grd (inb a0 (Prod.fst d))
 (sel (decide ((UInt8.toNat (rdL a0 (Prod.fst d) 0) : Int) < 48))
 (grd (inb a0 (Prod.fst d)) (sel (!decide ((UInt8.toNat (rdL a0 (Prod.fst d) 0) : Int) = 45)) (some ((false, ()), ())) (J (Prod.fst d))))
 (grd (inb a0 (Prod.fst d))
 (sel (decide (57 < (UInt8.toNat (rdL a0 (Prod.fst d) 0) : Int)))
 (grd (inb a0 (Prod.fst d)) (sel (!decide ((UInt8.toNat (rdL a0 (Prod.fst d) 0) : Int) = 45)) (some ((false, ()), ())) (J (Prod.fst d))))
 (J (Prod.fst d)))))))
 (J (Prod.fst d))
def VF.spec_IsCode.l3 (a0 : List UInt8) (J : Unit → Option ((Bool × Unit) × PUnit)) (ih : Int → Option ((Bool × Unit) × PUnit)) (d : Int) : Option ((Bool × Unit) × PUnit) :=
 sel (decide (d < (List.length a0 : Int)))
 (join (VF.spec_IsCode.j1 ih) fun (J : Int → Option ((Bool × Unit) × PUnit)) =>
 join (VF.spec_IsCode.j2 a0 J) fun (J : Int × Bool → Option ((Bool × Unit) × PUnit)) =>
 grd (inb a0 d)
 (sel (decide (65 ≤ (UInt8.toNat (rdL a0 d 0) : Int))) (grd (inb a0 d) (J (d, decide ((UInt8.toNat (rdL a0 d 0) : Int) ≤ 90)))) (J (d, false))))
 (J ())
def VF.spec_IsCode (k : Nat) (a0 : List UInt8) : Option ((Bool × Unit) × PUnit) :=
 join (VF.spec_IsCode.j0 a0) fun (J : Unit → Option ((Bool × Unit) × PUnit)) => iter (VF.spec_IsCode.l3 a0 J) k 0
def VF.spec_IsTrial.j0 (a0 : List (List UInt8 × Int × Unit)) (d : Int) : Option ((Bool × Unit) × PUnit) :=
 sel (decide (d = 0)) (some ((decide ((List.length a0 : Int) ≤ 12), ()), ())) (some ((false, ()), ()))
def VF.spec_IsTrial.j1 (ih : Int × Int → Option ((Bool × Unit) × PUnit)) (d : Int × Int) : Option ((Bool × Unit) × PUnit) :=
 ih (Prod.fst d, IntKind.wrap IntKind.i64 (Prod.snd d + 1))
def VF.spec_IsTrial.j2 (a0 : List (List UInt8 × Int × Unit)) (J : Int × Int → Option ((Bool × Unit) × PUnit)) (d : Int × Int) : Option ((Bool × Unit) × PUnit) :=
 grd (inb a0 (Prod.snd d)) (J (IntKind.wrap IntKind.i64 (Prod.fst d + Prod.fst (Prod.snd (rdL a0 (Prod.snd d) ([], 0, ())))), Prod.snd d))
def VF.spec_IsTrial.l3 (k : Nat) (a0 : List (List UInt8 × Int × Unit)) (J : Int → Option ((Bool × Unit) × PUnit)) (ih : Int × Int → Option ((Bool × Unit) × PUnit)) (d : Int × Int) : Option ((Bool × Unit) × PUnit) :=
 sel (decide (Prod.snd d < (List.length a0 : Int)))
 (join (VF.spec_IsTrial.j1 ih) fun (J : Int × Int → Option ((Bool × Unit) × PUnit)) =>
 join (VF.spec_IsTrial.j2 a0 J) fun (J : Int × Int → Option ((Bool × Unit) × PUnit)) =>
 grd (inb a0 (Prod.snd d))
 (bnd (VF.spec_IsCode k (Prod.fst (rdL a0 (Prod.snd d) ([], 0, ())))) fun (y : (Bool × Unit) × PUnit) =>
 sel (!Prod.fst (Prod.fst y)) (some ((false, ()), ()))
 (grd (inb a0 (Prod.snd d))
 (sel (decide (Prod.fst (Prod.snd (rdL a0 (Prod.snd d) ([], 0, ()))) = 0)) (some ((false, ()), ()))
 (grd (inb a0 (Prod.snd d))
 (bnd (VF.spec_l1In k (Prod.fst (Prod.snd (rdL a0 (Prod.snd d) ([], 0, ())))) (-1000000000) 1000000000)
 fun (y : (Bool × Unit) × PUnit) =>
 sel (!Prod.fst (Prod.fst y)) (some ((false, ()), ()))
 (sel (decide (0 < Prod.snd d))
 (grd (inb a0 (IntKind.wrap IntKind.i64 (Prod.snd d - 1)))
 (grd (inb a0 (Prod.snd d))
 (sel
 (!ltS (Prod.fst (rdL a0 (IntKind.wrap IntKind.i64 (Prod.snd d - 1)) ([], 0, ())))
 (Prod.fst (rdL a0 (Prod.snd d) ([], 0, ()))))
 (some ((false, ()), ())) (J (Prod.fst d, Prod.snd d)))))
 (J (Prod.fst d, Prod.snd d)))))))))
 (J (Prod.fst d))
def VF.spec_IsTrial (k : Nat) (a0 : List (List UInt8 × Int × Unit)) : Option ((Bool × Unit) × PUnit) :=
 join (VF.spec_IsTrial.j0 a0) fun (J : Int → Option ((Bool × Unit) × PUnit)) => iter (VF.spec_IsTrial.l3 k a0 J) k (0, 0)
def VF.spec_JoinTrials.j0 (a0 : List (List (List UInt8 × Int × Unit))) (d : List (List UInt8 × Int × Unit)) : Option ((List (List UInt8 × Int × Unit) × Bool × Unit) × PUnit) :=
 some ((d, decide ((List.length a0 : Int) ≤ 6), ()), ())
def VF.spec_JoinTrials.j1 (ih : List (List UInt8 × Int × Unit) × Int → Option ((List (List UInt8 × Int × Unit) × Bool × Unit) × PUnit)) (d : List (List UInt8 × Int × Unit) × Int) : Option ((List (List UInt8 × Int × Unit) × Bool × Unit) × PUnit) :=
 ih (Prod.fst d, IntKind.wrap IntKind.i64 (Prod.snd d + 1))
def VF.spec_JoinTrials.l2 (k : Nat) (a0 : List (List (List UInt8 × Int × Unit))) (J : List (List UInt8 × Int × Unit) × Int → Option ((List (List UInt8 × Int × Unit) × Bool × Unit) × PUnit)) (ih : List (List UInt8 × Int × Unit) × Int × Int → Option ((List (List UInt8 × Int × Unit) × Bool × Unit) × PUnit)) (d : List (List UInt8 × Int × Unit) × Int × Int) : Option ((List (List UInt8 × Int × Unit) × Bool × Unit) × PUnit) :=
 grd (inb a0 (Prod.fst (Prod.snd d)))
 (sel (decide (Prod.snd (Prod.snd d) < (List.length (rdL a0 (Prod.fst (Prod.snd d)) []) : Int)))
 (grd (inb a0 (Prod.fst (Prod.snd d)))
 (grd (inb (rdL a0 (Prod.fst (Prod.snd d)) []) (Prod.snd (Prod.snd d)))
 (grd (inb a0 (Prod.fst (Prod.snd d)))
 (grd (inb (rdL a0 (Prod.fst (Prod.snd d)) []) (Prod.snd (Prod.snd d)))
 (bnd
 (VF.spec_l35Add k (Prod.fst d) (Prod.fst (rdL (rdL a0 (Prod.fst (Prod.snd d)) []) (Prod.snd (Prod.snd d)) ([], 0, ())))
 (Prod.fst (Prod.snd (rdL (rdL a0 (Prod.fst (Prod.snd d)) []) (Prod.snd (Prod.snd d)) ([], 0, ())))))
 fun (y : (List (List UInt8 × Int × Unit) × Unit) × PUnit) =>
 ih (Prod.fst (Prod.fst y), Prod.fst (Prod.snd d), IntKind.wrap IntKind.i64 (Prod.snd (Prod.snd d) + 1)))))))
 (J (Prod.fst d, Prod.fst (Prod.snd d))))
def VF.spec_JoinTrials.l3 (k : Nat) (a0 : List (List (List UInt8 × Int × Unit))) (J : List (List UInt8 × Int × Unit) → Option ((List (List UInt8 × Int × Unit) × Bool × Unit) × PUnit)) (ih : List (List UInt8 × Int × Unit) × Int → Option ((List (List UInt8 × Int × Unit) × Bool × Unit) × PUnit)) (d : List (List UInt8 × Int × Unit) × Int) : Option ((List (List UInt8 × Int × Unit) × Bool × Unit) × PUnit) :=
 sel (decide (Prod.snd d < (List.length a0 : Int)))
 (sel (decide ((List.length a0 : Int) ≤ 6))
 (join (VF.spec_JoinTrials.j1 ih)
 fun (J : List (List UInt8 × Int × Unit) × Int → Option ((List (List UInt8 × Int × Unit) × Bool × Unit) × PUnit)) =>
 grd (inb a0 (Prod.snd d))
 (bnd (VF.spec_IsTrial k (rdL a0 (Prod.snd d) [])) fun (y : (Bool × Unit) × PUnit) =>
 sel (!Prod.fst (Prod.fst y)) (some (([], false, ()), ())) (iter (VF.spec_JoinTrials.l2 k a0 J) k (Prod.fst d, Prod.snd d, 0))))
 (J (Prod.fst d)))
 (J (Prod.fst d))
def VF.spec_JoinTrials (k : Nat) (a0 : List (List (List UInt8 × Int × Unit))) : Option ((List (List UInt8 × Int × Unit) × Bool × Unit) × PUnit) :=
 join (VF.spec_JoinTrials.j0 a0) fun (J : List (List UInt8 × Int × Unit) → Option ((List (List UInt8 × Int × Unit) × Bool × Unit) × PUnit)) =>
 iter (VF.spec_JoinTrials.l3 k a0 J) k ([], 0)
def VF.laws_toEntry (k : Nat) (a0 : List UInt8 × Int × Unit) : Option (((List UInt8 × Int × Unit) × Unit) × PUnit) :=
 some (((Prod.fst a0, Prod.fst (Prod.snd a0), ()), ()), ())
def VF.laws_toEntryS.j0 (d : List (List UInt8 × Int × Unit)) : Option ((List (List UInt8 × Int × Unit) × Unit) × PUnit) :=
 some ((d, ()), ())
def VF.laws_toEntryS.l1 (k : Nat) (a0 : List (List UInt8 × Int × Unit)) (J : List (List UInt8 × Int × Unit) → Option ((List (List UInt8 × Int × Unit) × Unit) × PUnit)) (ih : List (List UInt8 × Int × Unit) × Int → Option ((List (List UInt8 × Int × Unit) × Unit) × PUnit)) (d : List (List UInt8 × Int × Unit) × Int) : Option ((List (List UInt8 × Int × Unit) × Unit) × PUnit) :=
 sel (decide (Prod.snd d < (List.length a0 : Int)))
 (grd (inb a0 (Prod.snd d))
 (bnd (VF.laws_toEntry k (Prod.fst (rdL a0 (Prod.snd d) ([], 0, ())), Prod.fst (Prod.snd (rdL a0 (Prod.snd d) ([], 0, ()))), ()))
 fun (y : ((List UInt8 × Int × Unit) × Unit) × PUnit) =>
 grd (inb (Prod.fst d) (Prod.snd d))
 (ih
 (wrL (Prod.fst d) (Prod.snd d) (Prod.fst (Prod.fst (Prod.fst y)), Prod.fst (Prod.snd (Prod.fst (Prod.fst y))), ()),
 IntKind.wrap IntKind.i64 (Prod.snd d + 1)))))
 (J (Prod.fst d))
def VF.laws_toEntryS (k : Nat) (a0 : List (List UInt8 × Int × Unit)) : Option ((List (List UInt8 × Int × Unit) × Unit) × PUnit) :=
 grd (decide ((List.length a0 : Int) = (List.length a0 : Int)) && decide (0 ≤ (List.length a0 : Int)) && fits (Int.toNat (List.length a0 : Int)) 24)
 (join VF.laws_toEntryS.j0 fun (J : List (List UInt8 × Int × Unit) → Option ((List (List UInt8 × Int × Unit) × Unit) × PUnit)) =>
 iter (VF.laws_toEntryS.l1 k a0 J) k (List.replicate (Int.toNat (List.length a0 : Int)) ([], 0, ()), 0))
def VF.laws_toEntrySS.j0 (d : List (List (List UInt8 × Int × Unit))) : Option ((List (List (List UInt8 × Int × Unit)) × Unit) × PUnit) :=
 some ((d, ()), ())
def VF.laws_toEntrySS.l1 (k : Nat) (a0 : List (List (List UInt8 × Int × Unit))) (J : List (List (List UInt8 × Int × Unit)) → Option ((List (List (List UInt8 × Int × Unit)) × Unit) × PUnit)) (ih : List (List (List UInt8 × Int × Unit)) × Int → Option ((List (List (List UInt8 × Int × Unit)) × Unit) × PUnit)) (d : List (List (List UInt8 × Int × Unit)) × Int) : Option ((List (List (List UInt8 × Int × Unit)) × Unit) × PUnit) :=
 sel (decide (Prod.snd d < (List.length a0 : Int)))
 (grd (inb a0 (Prod.snd d))
 (bnd (VF.laws_toEntryS k (rdL a0 (Prod.snd d) [])) fun (y : (List (List UInt8 × Int × Unit) × Unit) × PUnit) =>
 grd (inb (Prod.fst d) (Prod.snd d)) (ih (wrL (Prod.fst d) (Prod.snd d) (Prod.fst (Prod.fst y)), IntKind.wrap IntKind.i64 (Prod.snd d + 1)))))
 (J (Prod.fst d))
def VF.laws_toEntrySS (k : Nat) (a0 : List (List (List UInt8 × Int × Unit))) : Option ((List (List (List UInt8 × Int × Unit)) × Unit) × PUnit) :=
 grd (decide ((List.length a0 : Int) = (List.length a0 : Int)) && decide (0 ≤ (List.length a0 : Int)) && fits (Int.toNat (List.length a0 : Int)) 24)
 (join VF.laws_toEntrySS.j0 fun (J : List (List (List UInt8 × Int × Unit)) → Option ((List (List (List UInt8 × Int × Unit)) × Unit) × PUnit)) =>
 iter (VF.laws_toEntrySS.l1 k a0 J) k (List.replicate (Int.toNat (List.length a0 : Int)) [], 0))
def VF.impl_IsCode.j0 (a0 : List UInt8) (d : Unit) : Option ((Bool × Unit) × PUnit) :=
 sel (decide (1 ≤ (List.length a0 : Int))) (some ((decide ((List.length a0 : Int) ≤ 8), ()), ())) (some ((false, ()), ()))
def VF.impl_IsCode.j1 (ih : Int → Option ((Bool × Unit) × PUnit)) (d : Int) : Option ((Bool × Unit) × PUnit) :=
 ih (IntKind.wrap IntKind.i64 (d + 1))
def VF.impl_IsCode.j2 (a0 : List UInt8) (J : Int → Option ((Bool × Unit) × PUnit)) (d : Int × Bool) : Option ((Bool × Unit) × PUnit) :=
 sel (!Prod.snd d)
 (sel (decide (Prod.fst d = 0)) (some ((false, ()), ()))
 (grd (inb a0 (Prod.fst d))
 (sel (decide ((UInt8.toNat (rdL a0 (Prod.fst d) 0) : Int) < 48))
 (grd (inb a0 (Prod.fst d)) (sel (!decide ((UInt8.toNat (rdL a0 (Prod.fst d) 0) : Int) = 45)) (some ((false, ()), ())) (J (Prod.fst d))))
 (grd (inb a0 (Prod.fst d))
 (sel (decide (57 < (UInt8.toNat (rdL a0 (Prod.fst d) 0) : Int)))
 (grd (inb a0 (Prod.fst d)) (sel (!decide ((UInt8.toNat (rdL a0 (Prod.fst d) 0) : Int) = 45)) (some ((false, ()), ())) (J (Prod.fst d))))
 (J (Prod.fst d)))))))
 (J (Prod.fst d))
def VF.impl_IsCode.l3 (a0 : List UInt8) (J : Unit → Option ((Bool × Unit) × PUnit)) (ih : Int → Option ((Bool × Unit) × PUnit)) (d : Int) : Option ((Bool × Unit) × PUnit) :=
 sel (decide (d < (List.length a0 : Int)))
 (join (VF.impl_IsCode.j1 ih) fun (J : Int → Option ((Bool × Unit) × PUnit)) =>
 join (VF.impl_IsCode.j2 a0 J) fun (J : Int × Bool → Option ((Bool × Unit) × PUnit)) =>
 grd (inb a0 d)
 (sel (decide (65 ≤ (UInt8.toNat (rdL a0 d 0) : Int))) (grd (inb a0 d) (J (d, decide ((UInt8.toNat (rdL a0 d 0) : Int) ≤ 90)))) (J (d, false))))
 (J ())
def VF.impl_IsCode (k : Nat) (a0 : List UInt8) : Option ((Bool × Unit) × PUnit) :=
 join (VF.impl_IsCode.j0 a0) fun (J : Unit → Option ((Bool × Unit) × PUnit)) => iter (VF.impl_IsCode.l3 a0 J) k 0
def VF.impl_IsTrial.j0 (a0 : List (List UInt8 × Int × Unit)) (d : Int) : Option ((Bool × Unit) × PUnit) :=
 sel (decide ((List.length a0 : Int) ≤ 12)) (some ((decide (d = 0), ()), ())) (some ((false, ()), ()))
def VF.impl_IsTrial.j1 (ih : Int × List (List UInt8 × Int × Unit) × Int × Int → Option ((Bool × Unit) × PUnit)) (d : Int × (List UInt8 × Int) × List (List UInt8 × Int × Unit) × Int × Int) : Option ((Bool × Unit) × PUnit) :=
 ih
 (IntKind.wrap IntKind.i64 (Prod.fst d + Prod.snd (Prod.fst (Prod.snd d))), Prod.fst (Prod.snd (Prod.snd d)),
 Prod.fst (Prod.snd (Prod.snd (Prod.snd d))), IntKind.wrap IntKind.i64 (Prod.snd (Prod.snd (Prod.snd (Prod.snd d))) + 1))
def VF.impl_IsTrial.l2 (k : Nat) (a0 : List (List UInt8 × Int × Unit)) (J : Int → Option ((Bool × Unit) × PUnit)) (ih : Int × List (List UInt8 × Int × Unit) × Int × Int → Option ((Bool × Unit) × PUnit)) (d : Int × List (List UInt8 × Int × Unit) × Int × Int) : Option ((Bool × Unit) × PUnit) :=
 sel (decide (Prod.snd (Prod.snd (Prod.snd d)) < Prod.fst (Prod.snd (Prod.snd d))))
 (grd (inb (Prod.fst (Prod.snd d)) (Prod.snd (Prod.snd (Prod.snd d))))
 (join (VF.impl_IsTrial.j1 ih) fun (J : Int × (List UInt8 × Int) × List (List UInt8 × Int × Unit) × Int × Int → Option ((Bool × Unit) × PUnit)) =>
 bnd (VF.impl_IsCode k (Prod.fst (rdL (Prod.fst (Prod.snd d)) (Prod.snd (Prod.snd (Prod.snd d))) ([], 0, ()))))
 fun (y : (Bool × Unit) × PUnit) =>
 sel (!Prod.fst (Prod.fst y)) (some ((false, ()), ()))
 (sel (decide (0 < Prod.snd (Prod.snd (Prod.snd d))))
 (grd (inb a0 (IntKind.wrap IntKind.i64 (Prod.snd (Prod.snd (Prod.snd d)) - 1)))
 (sel
 (!ltS (Prod.fst (rdL a0 (IntKind.wrap IntKind.i64 (Prod.snd (Prod.snd (Prod.snd d)) - 1)) ([], 0, ())))
 (Prod.fst (rdL (Prod.fst (Prod.snd d)) (Prod.snd (Prod.snd (Prod.snd d))) ([], 0, ()))))
 (some ((false, ()), ()))
 (bnd
 (VF.impl_in k (Prod.fst (Prod.snd (rdL (Prod.fst (Prod.snd d)) (Prod.snd (Prod.snd (Prod.snd d))) ([], 0, ())))) (-1000000000)
 1000000000)
 fun (y : (Bool × Unit) × PUnit) =>
 sel (!Prod.fst (Prod.fst y)) (some ((false, ()), ()))
 (sel (decide (Prod.fst (Prod.snd (rdL (Prod.fst (Prod.snd d)) (Prod.snd (Prod.snd (Prod.snd d))) ([], 0, ()))) = 0))
 (some ((false, ()), ()))
 (J
 (Prod.fst d,
 (Prod.fst (rdL (Prod.fst (Prod.snd d)) (Prod.snd (Prod.snd (Prod.snd d))) ([], 0, ())),
 Prod.fst (Prod.snd (rdL (Prod.fst (Prod.snd d)) (Prod.snd (Prod.snd (Prod.snd d))) ([], 0, ())))),
 Prod.fst (Prod.snd d), Prod.fst (Prod.snd (Prod.snd d)), Prod.snd (Prod.snd (Prod.snd d))))))))
 (bnd
 (VF.impl_in k (Prod.fst (Prod.snd (rdL (Prod.fst (Prod.snd d)) (Prod.snd (Prod.snd (Prod.snd d))) ([], 0, ())))) (-1000000000)
 1000000000)
 fun (y : (Bool × Unit) × PUnit) =>
 sel (!Prod.fst (Prod.fst y)) (some ((false, ()), ()))
 (sel (decide (Prod.fst (Prod.snd (rdL (Prod.fst (Prod.snd d)) (Prod.snd (Prod.snd (Prod.snd d))) ([], 0, ()))) = 0))
 (some ((false, ()), ()))
 (J
 (Prod.fst d,
 (Prod.fst (rdL (Prod.fst (Prod.snd d)) (Prod.snd (Prod.snd (Prod.snd d))) ([], 0, ())),
 Prod.fst (Prod.snd (rdL (Prod.fst (Prod.snd d)) (Prod.snd (Prod.snd (Prod.snd d))) ([], 0, ())))),
 Prod.fst (Prod.snd d), Prod.fst (Prod.snd (Prod.snd d)), Prod.snd (Prod.snd (Prod.snd d)))))))))
 (J (Prod.fst d))
def VF.impl_IsTrial (k : Nat) (a0 : List (List UInt8 × Int × Unit)) : Option ((Bool × Unit) × PUnit) :=
 join (VF.impl_IsTrial.j0 a0) fun (J : Int → Option ((Bool × Unit) × PUnit)) => iter (VF.impl_IsTrial.l2 k a0 J) k (0, a0, (List.length a0 : Int), 0)
def VF.impl_JoinTrials.j0 (k : Nat) (d : List (List UInt8 × Int × Unit)) : Option ((List (List UInt8 × Int × Unit) × Bool × Unit) × PUnit) :=
 bnd (VF.impl_totals k d) fun (y : (List (List UInt8 × Int × Unit) × Unit) × PUnit) => some ((Prod.fst (Prod.fst y), true, ()), ())
def VF.impl_JoinTrials.l1 (k : Nat) (J : List (List UInt8 × Int × Unit) → Option ((List (List UInt8 × Int × Unit) × Bool × Unit) × PUnit)) (ih : List (List UInt8 × Int × Unit) × List (List (List UInt8 × Int × Unit)) × Int × Int → Option ((List (List UInt8 × Int × Unit) × Bool × Unit) × PUnit)) (d : List (List UInt8 × Int × Unit) × List (List (List UInt8 × Int × Unit)) × Int × Int) : Option ((List (List UInt8 × Int × Unit) × Bool × Unit) × PUnit) :=
 sel (decide (Prod.snd (Prod.snd (Prod.snd d)) < Prod.fst (Prod.snd (Prod.snd d))))
 (grd (inb (Prod.fst (Prod.snd d)) (Prod.snd (Prod.snd (Prod.snd d))))
 (bnd (VF.impl_IsTrial k (rdL (Prod.fst (Prod.snd d)) (Prod.snd (Prod.snd (Prod.snd d))) [])) fun (y : (Bool × Unit) × PUnit) =>
 sel (!Prod.fst (Prod.fst y)) (some (([], false, ()), ()))
 (grd (fits (List.length (Prod.fst d) + List.length (rdL (Prod.fst (Prod.snd d)) (Prod.snd (Prod.snd (Prod.snd d))) [])) 24)
 (ih
 (Prod.fst d ++ rdL (Prod.fst (Prod.snd d)) (Prod.snd (Prod.snd (Prod.snd d))) [], Prod.fst (Prod.snd d), Prod.fst (Prod.snd (Prod.snd d)),
 IntKind.wrap IntKind.i64 (Prod.snd (Prod.snd (Prod.snd d)) + 1))))))
 (J (Prod.fst d))
def VF.impl_JoinTrials (k : Nat) (a0 : List (List (List UInt8 × Int × Unit))) : Option ((List (List UInt8 × Int × Unit) × Bool × Unit) × PUnit) :=
 sel (decide (6 < (List.length a0 : Int))) (some (([], false, ()), ()))
 (join (VF.impl_JoinTrials.j0 k) fun (J : List (List UInt8 × Int × Unit) → Option ((List (List UInt8 × Int × Unit) × Bool × Unit) × PUnit)) =>
 iter (VF.impl_JoinTrials.l1 k J) k ([], a0, (List.length a0 : Int), 0))
def VF.laws_eqEntrySS.j0 (d : Unit) : Option ((Bool × Unit) × PUnit) :=
 some ((true, ()), ())
def VF.laws_eqEntrySS.l1 (k : Nat) (a0 : List (List (List UInt8 × Int × Unit))) (a1 : List (List (List UInt8 × Int × Unit))) (J : Unit → Option ((Bool × Unit) × PUnit)) (ih : Int → Option ((Bool × Unit) × PUnit)) (d : Int) : Option ((Bool × Unit) × PUnit) :=
 sel (decide (d < (List.length a0 : Int)))
 (grd (inb a0 d)
 (grd (inb a1 d)
 (bnd (VF.laws_eqEntryS k (rdL a0 d []) (rdL a1 d [])) fun (y : (Bool × Unit) × PUnit) =>
 sel (!Prod.fst (Prod.fst y)) (some ((false, ()), ())) (ih (IntKind.wrap IntKind.i64 (d + 1))))))
 (J ())
def VF.laws_eqEntrySS (k : Nat) (a0 : List (List (List UInt8 × Int × Unit))) (a1 : List (List (List UInt8 × Int × Unit))) : Option ((Bool × Unit) × PUnit) :=
 sel (!decide ((List.length a0 : Int) = (List.length a1 : Int))) (some ((false, ()), ()))
 (join VF.laws_eqEntrySS.j0 fun (J : Unit → Option ((Bool × Unit) × PUnit)) => iter (VF.laws_eqEntrySS.l1 k a0 a1 J) k 0)
def VF.laws_markEntrySS.j0 (d : List (List (List UInt8 × Int × Unit)) × Int) : Option ((Int × Unit) × List (List (List UInt8 × Int × Unit)) × Unit) :=
 some ((Prod.snd d, ()), Prod.fst d, ())
def VF.laws_markEntrySS.l1 (k : Nat) (J : List (List (List UInt8 × Int × Unit)) × Int → Option ((Int × Unit) × List (List (List UInt8 × Int × Unit)) × Unit)) (ih : List (List (List UInt8 × Int × Unit)) × Int × Int → Option ((Int × Unit) × List (List (List UInt8 × Int × Unit)) × Unit)) (d : List (List (List UInt8 × Int × Unit)) × Int × Int) : Option ((Int × Unit) × List (List (List UInt8 × Int × Unit)) × Unit) :=
 sel (decide (Prod.snd (Prod.snd d) < (List.length (Prod.fst d) : Int)))
 (grd (inb (Prod.fst d) (Prod.snd (Prod.snd d)))
 (bnd (VF.laws_markEntryS k (rdL (Prod.fst d) (Prod.snd (Prod.snd d)) []) (Prod.fst (Prod.snd d)))
 fun (y : (Int × Unit) × List (List UInt8 × Int × Unit) × Unit) =>
 ih
 (wrL (Prod.fst d) (Prod.snd (Prod.snd d)) (Prod.fst (Prod.snd y)), Prod.fst (Prod.fst y),
 IntKind.wrap IntKind.i64 (Prod.snd (Prod.snd d) + 1))))
 (J (Prod.fst d, Prod.fst (Prod.snd d)))
def VF.laws_markEntrySS (k : Nat) (a0 : List (List (List UInt8 × Int × Unit))) (a1 : Int) : Option ((Int × Unit) × List (List (List UInt8 × Int × Unit)) × Unit) :=
 join VF.laws_markEntrySS.j0
 fun (J : List (List (List UInt8 × Int × Unit)) × Int → Option ((Int × Unit) × List (List (List UInt8 × Int × Unit)) × Unit)) =>
 iter (VF.laws_markEntrySS.l1 k J) k (a0, a1, 0)
def VF.laws_FnExactJoinTrials.j0 (k : Nat) (d : List (List UInt8 × Int × Unit) × Int) : Option ((Bool × Unit) × PUnit) :=
 bnd (VF.laws_heldEntryS k (Prod.fst d) 1) fun (y : (Int × Unit) × PUnit) =>
 sel (decide (Prod.fst (Prod.fst y) < 0)) (some ((false, ()), ()))
 (sel (!decide (Prod.fst (Prod.fst y) = Prod.snd d)) (some ((false, ()), ())) (some ((true, ()), ())))
def VF.laws_FnExactJoinTrials.j1 (k : Nat) (a0 : List (List (List UInt8 × Int × Unit))) (d : List (List UInt8 × Int × Unit) × Bool × List (List UInt8 × Int × Unit)) : Option ((Bool × Unit) × PUnit) :=
 bnd (VF.laws_markEntryS k (Prod.snd (Prod.snd d)) 1) fun (y : (Int × Unit) × List (List UInt8 × Int × Unit) × Unit) =>
 bnd (VF.laws_heldEntryS k (Prod.fst (Prod.snd y)) 1) fun (y_1 : (Int × Unit) × PUnit) =>
 sel (decide (Prod.fst (Prod.fst y_1) < 0)) (some ((false, ()), ()))
 (sel (!decide (Prod.fst (Prod.fst y_1) = Prod.fst (Prod.fst y))) (some ((false, ()), ()))
 (bnd (VF.laws_toEntrySS k a0) fun (y_2 : (List (List (List UInt8 × Int × Unit)) × Unit) × PUnit) =>
 bnd (VF.impl_JoinTrials k (Prod.fst (Prod.fst y_2))) fun (y_3 : (List (List UInt8 × Int × Unit) × Bool × Unit) × PUnit) =>
 join (VF.laws_FnExactJoinTrials.j0 k) fun (J : List (List UInt8 × Int × Unit) × Int → Option ((Bool × Unit) × PUnit)) =>
 bnd (VF.laws_eqEntryS k (Prod.fst (Prod.fst y_3)) (Prod.fst d)) fun (y_4 : (Bool × Unit) × PUnit) =>
 sel (!Prod.fst (Prod.fst y_4)) (some ((false, ()), ()))
 (sel (!Prod.fst (Prod.snd (Prod.fst y_3)) == Prod.fst (Prod.snd d)) (some ((false, ()), ()))
 (J (Prod.fst (Prod.snd y), Prod.fst (Prod.fst y))))))
def VF.laws_FnExactJoinTrials.j2 (k : Nat) (a0 : List (List (List UInt8 × Int × Unit))) (d : List (List UInt8 × Int × Unit) × Bool × List (List (List UInt8 × Int × Unit)) × List (List UInt8 × Int × Unit) × Bool) : Option ((Bool × Unit) × PUnit) :=
 bnd (VF.laws_toEntrySS k a0) fun (y : (List (List (List UInt8 × Int × Unit)) × Unit) × PUnit) =>
 bnd (VF.laws_eqEntrySS k (Prod.fst (Prod.snd (Prod.snd d))) (Prod.fst (Prod.fst y))) fun (y : (Bool × Unit) × PUnit) =>
 sel (!Prod.fst (Prod.fst y)) (some ((false, ()), ()))
 (bnd (VF.laws_markEntrySS k (Prod.fst (Prod.snd (Prod.snd d))) 1) fun (y : (Int × Unit) × List (List (List UInt8 × Int × Unit)) × Unit) =>
 join (VF.laws_FnExactJoinTrials.j1 k a0)
 fun (J : List (List UInt8 × Int × Unit) × Bool × List (List UInt8 × Int × Unit) → Option ((Bool × Unit) × PUnit)) =>
 sel (decide (Prod.fst (Prod.fst y) < 0)) (some ((false, ()), ()))
 (bnd (VF.laws_eqEntryS k (Prod.fst (Prod.snd (Prod.snd (Prod.snd d)))) (Prod.fst d)) fun (y : (Bool × Unit) × PUnit) =>
 sel (!Prod.fst (Prod.fst y)) (some ((false, ()), ()))
 (sel (!Prod.snd (Prod.snd (Prod.snd (Prod.snd d))) == Prod.fst (Prod.snd d)) (some ((false, ()), ()))
 (J (Prod.fst d, Prod.fst (Prod.snd d), Prod.fst (Prod.snd (Prod.snd (Prod.snd d))))))))
def VF.laws_FnExactJoinTrials (k : Nat) (a0 : List (List (List UInt8 × Int × Unit))) : Option ((Bool × Unit) × PUnit) :=
 bnd (VF.laws_szEntrySS k a0 1048576) fun (y : (Int × Unit) × PUnit) =>
 sel (decide (Prod.fst (Prod.fst y) < 0)) (some ((true, ()), ()))
 (bnd (VF.laws_toEntrySS k a0) fun (y : (List (List (List UInt8 × Int × Unit)) × Unit) × PUnit) =>
 bnd (VF.spec_JoinTrials k (Prod.fst (Prod.fst y))) fun (y : (List (List UInt8 × Int × Unit) × Bool × Unit) × PUnit) =>
 bnd (VF.laws_toEntrySS k a0) fun (y_1 : (List (List (List UInt8 × Int × Unit)) × Unit) × PUnit) =>
 bnd (VF.impl_JoinTrials k (Prod.fst (Prod.fst y_1))) fun (y_2 : (List (List UInt8 × Int × Unit) × Bool × Unit) × PUnit) =>
 join (VF.laws_FnExactJoinTrials.j2 k a0)
 fun
 (J :
 List (List UInt8 × Int × Unit) × Bool × List (List (List UInt8 × Int × Unit)) × List (List UInt8 × Int × Unit) × Bool →
 Option ((Bool × Unit) × PUnit)) =>
 bnd (VF.laws_eqEntryS k (Prod.fst (Prod.fst y_2)) (Prod.fst (Prod.fst y))) fun (y_3 : (Bool × Unit) × PUnit) =>
 sel (!Prod.fst (Prod.fst y_3)) (some ((false, ()), ()))
 (sel (!Prod.fst (Prod.snd (Prod.fst y_2)) == Prod.fst (Prod.snd (Prod.fst y))) (some ((false, ()), ()))
 (J
 (Prod.fst (Prod.fst y), Prod.fst (Prod.snd (Prod.fst y)), Prod.fst (Prod.fst y_1), Prod.fst (Prod.fst y_2),
 Prod.fst (Prod.snd (Prod.fst y_2))))))
def VF.laws_szDocument (k : Nat) (a0 : Int × Int × List (List UInt8 × Int × Unit) × Unit) (a1 : Int) : Option ((Int × Unit) × PUnit) :=
 bnd (VF.laws_szEntryS k (Prod.fst (Prod.snd (Prod.snd a0))) a1) fun (y : (Int × Unit) × PUnit) =>
 sel (decide (Prod.fst (Prod.fst y) < 0)) (some ((-1, ()), ())) (some ((Prod.fst (Prod.fst y), ()), ()))
def VF.laws_szDocumentS.j0 (d : Int) : Option ((Int × Unit) × PUnit) :=
 some ((d, ()), ())
def VF.laws_szDocumentS.l1 (k : Nat) (a0 : List (Int × Int × List (List UInt8 × Int × Unit) × Unit)) (J : Int → Option ((Int × Unit) × PUnit)) (ih : Int × Int → Option ((Int × Unit) × PUnit)) (d : Int × Int) : Option ((Int × Unit) × PUnit) :=
 sel (decide (Prod.snd d < (List.length a0 : Int)))
 (grd (inb a0 (Prod.snd d))
 (bnd
 (VF.laws_szDocument k
 (Prod.fst (rdL a0 (Prod.snd d) (0, 0, [], ())), Prod.fst (Prod.snd (rdL a0 (Prod.snd d) (0, 0, [], ()))),
 Prod.fst (Prod.snd (Prod.snd (rdL a0 (Prod.snd d) (0, 0, [], ())))), ())
 (Prod.fst d))
 fun (y : (Int × Unit) × PUnit) =>
 sel (decide (Prod.fst (Prod.fst y) < 0)) (some ((-1, ()), ())) (ih (Prod.fst (Prod.fst y), IntKind.wrap IntKind.i64 (Prod.snd d + 1)))))
 (J (Prod.fst d))
def VF.laws_szDocumentS (k : Nat) (a0 : List (Int × Int × List (List UInt8 × Int × Unit) × Unit)) (a1 : Int) : Option ((Int × Unit) × PUnit) :=
 sel (decide (IntKind.wrap IntKind.i64 (a1 - (List.length a0 : Int)) < 0)) (some ((-1, ()), ()))
 (join VF.laws_szDocumentS.j0 fun (J : Int → Option ((Int × Unit) × PUnit)) =>
 iter (VF.laws_szDocumentS.l1 k a0 J) k (IntKind.wrap IntKind.i64 (a1 - (List.length a0 : Int)), 0))
def VF.spec_AreEntries.j0 (k : Nat) (a0 : List (List UInt8 × Int × Unit)) (d : Int) : Option ((Bool × Unit) × PUnit) :=
 sel (decide (d = 0)) (bnd (VF.spec_l1In k ((List.length a0 : Int)) 2 12) fun (y : (Bool × Unit) × PUnit) => some ((Prod.fst (Prod.fst y), ()), ()))
 (some ((false, ()), ()))
def VF.spec_AreEntries.j1 (a0 : List (List UInt8 × Int × Unit)) (ih : Int × Int → Option ((Bool × Unit) × PUnit)) (d : Int × Int) : Option ((Bool × Unit) × PUnit) :=
 grd (inb a0 (Prod.snd d))
 (ih (IntKind.wrap IntKind.i64 (Prod.fst d + Prod.fst (Prod.snd (rdL a0 (Prod.snd d) ([], 0, ())))), IntKind.wrap IntKind.i64 (Prod.snd d + 1)))
def VF.spec_AreEntries.l2 (k : Nat) (a0 : List (List UInt8 × Int × Unit)) (J : Int → Option ((Bool × Unit) × PUnit)) (ih : Int × Int → Option ((Bool × Unit) × PUnit)) (d : Int × Int) : Option ((Bool × Unit) × PUnit) :=
 sel (decide (Prod.snd d < (List.length a0 : Int)))
 (join (VF.spec_AreEntries.j1 a0 ih) fun (J : Int × Int → Option ((Bool × Unit) × PUnit)) =>
 grd (inb a0 (Prod.snd d))
 (bnd (VF.spec_IsCode k (Prod.fst (rdL a0 (Prod.snd d) ([], 0, ())))) fun (y : (Bool × Unit) × PUnit) =>
 sel (!Prod.fst (Prod.fst y)) (some ((false, ()), ()))
 (grd (inb a0 (Prod.snd d))
 (sel (decide (Prod.fst (Prod.snd (rdL a0 (Prod.snd d) ([], 0, ()))) = 0)) (some ((false, ()), ()))
 (grd (inb a0 (Prod.snd d))
 (bnd (VF.spec_l1In k (Prod.fst (Prod.snd (rdL a0 (Prod.snd d) ([], 0, ())))) (-1000000000) 1000000000)
 fun (y : (Bool × Unit) × PUnit) => sel (!Prod.fst (Prod.fst y)) (some ((false, ()), ())) (J (Prod.fst d, Prod.snd d))))))))
 (J (Prod.fst d))
def VF.spec_AreEntries (k : Nat) (a0 : List (List UInt8 × Int × Unit)) : Option ((Bool × Unit) × PUnit) :=
 join (VF.spec_AreEntries.j0 k a0) fun (J : Int → Option ((Bool × Unit) × PUnit)) => iter (VF.spec_AreEntries.l2 k a0 J) k (0, 0)
def VF.spec_AreDocuments.j0 (a0 : List (Int × Int × List (List UInt8 × Int × Unit) × Unit)) (d : Unit) : Option ((Bool × Unit) × PUnit) :=
 some ((decide ((List.length a0 : Int) ≤ 120), ()), ())
def VF.spec_AreDocuments.l1 (k : Nat) (a0 : List (Int × Int × List (List UInt8 × Int × Unit) × Unit)) (J : Unit → Option ((Bool × Unit) × PUnit)) (ih : Int → Option ((Bool × Unit) × PUnit)) (d : Int) : Option ((Bool × Unit) × PUnit) :=
 sel (decide (d < (List.length a0 : Int)))
 (grd (inb a0 d)
 (sel (!decide (Prod.fst (rdL a0 d (0, 0, [], ())) = IntKind.wrap IntKind.i64 (d + 1))) (some ((false, ()), ()))
 (grd (inb a0 d)
 (bnd (VF.spec_l1In k (Prod.fst (Prod.snd (rdL a0 d (0, 0, [], ())))) 0 999) fun (y : (Bool × Unit) × PUnit) =>
 sel (!Prod.fst (Prod.fst y)) (some ((false, ()), ()))
 (grd (inb a0 d)
 (bnd (VF.spec_AreEntries k (Prod.fst (Prod.snd (Prod.snd (rdL a0 d (0, 0, [], ())))))) fun (y : (Bool × Unit) × PUnit) =>
 sel (!Prod.fst (Prod.fst y)) (some ((false, ()), ())) (ih (IntKind.wrap IntKind.i64 (d + 1)))))))))
 (J ())
def VF.spec_AreDocuments (k : Nat) (a0 : List (Int × Int × List (List UInt8 × Int × Unit) × Unit)) : Option ((Bool × Unit) × PUnit) :=
 join (VF.spec_AreDocuments.j0 a0) fun (J : Unit → Option ((Bool × Unit) × PUnit)) => iter (VF.spec_AreDocuments.l1 k a0 J) k 0
def VF.spec_MovementOf.j0 (d : List (List UInt8 × Int × Unit)) : Option ((List (List UInt8 × Int × Unit) × Unit) × PUnit) :=
 some ((d, ()), ())
def VF.spec_MovementOf.j1 (ih : List (List UInt8 × Int × Unit) × Int → Option ((List (List UInt8 × Int × Unit) × Unit) × PUnit)) (d : List (List UInt8 × Int × Unit) × Int) : Option ((List (List UInt8 × Int × Unit) × Unit) × PUnit) :=
 ih (Prod.fst d, IntKind.wrap IntKind.i64 (Prod.snd d + 1))
def VF.spec_MovementOf.j2 (k : Nat) (a0 : List (Int × Int × List (List UInt8 × Int × Unit) × Unit)) (ih : List (List UInt8 × Int × Unit) × Int × Int → Option ((List (List UInt8 × Int × Unit) × Unit) × PUnit)) (d : List (List UInt8 × Int × Unit) × Int × Int) : Option ((List (List UInt8 × Int × Unit) × Unit) × PUnit) :=
 grd (inb a0 (Prod.fst (Prod.snd d)))
 (grd (inb (Prod.fst (Prod.snd (Prod.snd (rdL a0 (Prod.fst (Prod.snd d)) (0, 0, [], ()))))) (Prod.snd (Prod.snd d)))
 (grd (inb a0 (Prod.fst (Prod.snd d)))
 (grd (inb (Prod.fst (Prod.snd (Prod.snd (rdL a0 (Prod.fst (Prod.snd d)) (0, 0, [], ()))))) (Prod.snd (Prod.snd d)))
 (bnd
 (VF.spec_l35Add k (Prod.fst d)
 (Prod.fst (rdL (Prod.fst (Prod.snd (Prod.snd (rdL a0 (Prod.fst (Prod.snd d)) (0, 0, [], ()))))) (Prod.snd (Prod.snd d)) ([], 0, ())))
 (Prod.fst
 (Prod.snd (rdL (Prod.fst (Prod.snd (Prod.snd (rdL a0 (Prod.fst (Prod.snd d)) (0, 0, [], ()))))) (Prod.snd (Prod.snd d)) ([], 0, ())))))
 fun (y : (List (List UInt8 × Int × Unit) × Unit) × PUnit) =>
 ih (Prod.fst (Prod.fst y), Prod.fst (Prod.snd d), IntKind.wrap IntKind.i64 (Prod.snd (Prod.snd d) + 1))))))
def VF.spec_MovementOf.l3 (k : Nat) (a0 : List (Int × Int × List (List UInt8 × Int × Unit) × Unit)) (a1 : Int) (a2 : Int) (J : List (List UInt8 × Int × Unit) × Int → Option ((List (List UInt8 × Int × Unit) × Unit) × PUnit)) (ih : List (List UInt8 × Int × Unit) × Int × Int → Option ((List (List UInt8 × Int × Unit) × Unit) × PUnit)) (d : List (List UInt8 × Int × Unit) × Int × Int) : Option ((List (List UInt8 × Int × Unit) × Unit) × PUnit) :=
 join (VF.spec_MovementOf.j2 k a0 ih)
 fun (J_1 : List (List UInt8 × Int × Unit) × Int × Int → Option ((List (List UInt8 × Int × Unit) × Unit) × PUnit)) =>
 grd (inb a0 (Prod.fst (Prod.snd d)))
 (sel (decide (Prod.snd (Prod.snd d) < (List.length (Prod.fst (Prod.snd (Prod.snd (rdL a0 (Prod.fst (Prod.snd d)) (0, 0, [], ()))))) : Int)))
 (grd (inb a0 (Prod.fst (Prod.snd d)))
 (sel (decide (a1 ≤ Prod.fst (Prod.snd (rdL a0 (Prod.fst (Prod.snd d)) (0, 0, [], ())))))
 (grd (inb a0 (Prod.fst (Prod.snd d)))
 (sel (decide (Prod.fst (Prod.snd (rdL a0 (Prod.fst (Prod.snd d)) (0, 0, [], ()))) ≤ a2))
 (J_1 (Prod.fst d, Prod.fst (Prod.snd d), Prod.snd (Prod.snd d))) (J (Prod.fst d, Prod.fst (Prod.snd d)))))
 (J (Prod.fst d, Prod.fst (Prod.snd d)))))
 (J (Prod.fst d, Prod.fst (Prod.snd d))))
def VF.spec_MovementOf.l4 (k : Nat) (a0 : List (Int × Int × List (List UInt8 × Int × Unit) × Unit)) (a1 : Int) (a2 : Int) (J : List (List UInt8 × Int × Unit) → Option ((List (List UInt8 × Int × Unit) × Unit) × PUnit)) (ih : List (List UInt8 × Int × Unit) × Int → Option ((List (List UInt8 × Int × Unit) × Unit) × PUnit)) (d : List (List UInt8 × Int × Unit) × Int) : Option ((List (List UInt8 × Int × Unit) × Unit) × PUnit) :=
 sel (decide (Prod.snd d < (List.length a0 : Int)))
 (bnd (VF.spec_AreDocuments k a0) fun (y : (Bool × Unit) × PUnit) =>
 sel (Prod.fst (Prod.fst y))
 (join (VF.spec_MovementOf.j1 ih) fun (J : List (List UInt8 × Int × Unit) × Int → Option ((List (List UInt8 × Int × Unit) × Unit) × PUnit)) =>
 iter (VF.spec_MovementOf.l3 k a0 a1 a2 J) k (Prod.fst d, Prod.snd d, 0))
 (J (Prod.fst d)))
 (J (Prod.fst d))
def VF.spec_MovementOf (k : Nat) (a0 : List (Int × Int × List (List UInt8 × Int × Unit) × Unit)) (a1 : Int) (a2 : Int) : Option ((List (List UInt8 × Int × Unit) × Unit) × PUnit) :=
 join VF.spec_MovementOf.j0 fun (J : List (List UInt8 × Int × Unit) → Option ((List (List UInt8 × Int × Unit) × Unit) × PUnit)) =>
 iter (VF.spec_MovementOf.l4 k a0 a1 a2 J) k ([], 0)
def VF.laws_toDocument (k : Nat) (a0 : Int × Int × List (List UInt8 × Int × Unit) × Unit) : Option (((Int × Int × List (List UInt8 × Int × Unit) × Unit) × Unit) × PUnit) :=
 bnd (VF.laws_toEntryS k (Prod.fst (Prod.snd (Prod.snd a0)))) fun (y : (List (List UInt8 × Int × Unit) × Unit) × PUnit) =>
 some (((Prod.fst a0, Prod.fst (Prod.snd a0), Prod.fst (Prod.fst y), ()), ()), ())
def VF.laws_toDocumentS.j0 (d : List (Int × Int × List (List UInt8 × Int × Unit) × Unit)) : Option ((List (Int × Int × List (List UInt8 × Int × Unit) × Unit) × Unit) × PUnit) :=
 some ((d, ()), ())
def VF.laws_toDocumentS.l1 (k : Nat) (a0 : List (Int × Int × List (List UInt8 × Int × Unit) × Unit)) (J : List (Int × Int × List (List UInt8 × Int × Unit) × Unit) → Option ((List (Int × Int × List (List UInt8 × Int × Unit) × Unit) × Unit) × PUnit)) (ih : List (Int × Int × List (List UInt8 × Int × Unit) × Unit) × Int → Option ((List (Int × Int × List (List UInt8 × Int × Unit) × Unit) × Unit) × PUnit)) (d : List (Int × Int × List (List UInt8 × Int × Unit) × Unit) × Int) : Option ((List (Int × Int × List (List UInt8 × Int × Unit) × Unit) × Unit) × PUnit) :=
 sel (decide (Prod.snd d < (List.length a0 : Int)))
 (grd (inb a0 (Prod.snd d))
 (bnd
 (VF.laws_toDocument k
 (Prod.fst (rdL a0 (Prod.snd d) (0, 0, [], ())), Prod.fst (Prod.snd (rdL a0 (Prod.snd d) (0, 0, [], ()))),
 Prod.fst (Prod.snd (Prod.snd (rdL a0 (Prod.snd d) (0, 0, [], ())))), ()))
 fun (y : ((Int × Int × List (List UInt8 × Int × Unit) × Unit) × Unit) × PUnit) =>
 grd (inb (Prod.fst d) (Prod.snd d))
 (ih
 (wrL (Prod.fst d) (Prod.snd d)
 (Prod.fst (Prod.fst (Prod.fst y)), Prod.fst (Prod.snd (Prod.fst (Prod.fst y))), Prod.fst (Prod.snd (Prod.snd (Prod.fst (Prod.fst y)))),
 ()),
 IntKind.wrap IntKind.i64 (Prod.snd d + 1)))))
 (J (Prod.fst d))
def VF.laws_toDocumentS (k : Nat) (a0 : List (Int × Int × List (List UInt8 × Int × Unit) × Unit)) : Option ((List (Int × Int × List (List UInt8 × Int × Unit) × Unit) × Unit) × PUnit) :=
 grd (decide ((List.length a0 : Int) = (List.length a0 : Int)) && decide (0 ≤ (List.length a0 : Int)) && fits (Int.toNat (List.length a0 : Int)) 40)
 (join VF.laws_toDocumentS.j0
 fun
 (J :
 List (Int × Int × List (List UInt8 × Int × Unit) × Unit) →
 Option ((List (Int × Int × List (List UInt8 × Int × Unit) × Unit) × Unit) × PUnit)) =>
 iter (VF.laws_toDocumentS.l1 k a0 J) k (List.replicate (Int.toNat (List.length a0 : Int)) (0, 0, [], ()), 0))
def VF.impl_AreEntries.j0 (k : Nat) (a0 : List (List UInt8 × Int × Unit)) (d : Int) : Option ((Bool × Unit) × PUnit) :=
 bnd (VF.impl_in k ((List.length a0 : Int)) 2 12) fun (y : (Bool × Unit) × PUnit) =>
 sel (Prod.fst (Prod.fst y)) (some ((decide (d = 0), ()), ())) (some ((false, ()), ()))
def VF.impl_AreEntries.l1 (k : Nat) (J : Int → Option ((Bool × Unit) × PUnit)) (ih : Int × List (List UInt8 × Int × Unit) × Int × Int → Option ((Bool × Unit) × PUnit)) (d : Int × List (List UInt8 × Int × Unit) × Int × Int) : Option ((Bool × Unit) × PUnit) :=
 sel (decide (Prod.snd (Prod.snd (Prod.snd d)) < Prod.fst (Prod.snd (Prod.snd d))))
 (grd (inb (Prod.fst (Prod.snd d)) (Prod.snd (Prod.snd (Prod.snd d))))
 (bnd (VF.impl_IsCode k (Prod.fst (rdL (Prod.fst (Prod.snd d)) (Prod.snd (Prod.snd (Prod.snd d))) ([], 0, ())))) fun (y : (Bool × Unit) × PUnit) =>
 sel (!Prod.fst (Prod.fst y)) (some ((false, ()), ()))
 (bnd
 (VF.impl_in k (Prod.fst (Prod.snd (rdL (Prod.fst (Prod.snd d)) (Prod.snd (Prod.snd (Prod.snd d))) ([], 0, ())))) (-1000000000) 1000000000)
 fun (y : (Bool × Unit) × PUnit) =>
 sel (!Prod.fst (Prod.fst y)) (some ((false, ()), ()))
 (sel (decide (Prod.fst (Prod.snd (rdL (Prod.fst (Prod.snd d)) (Prod.snd (Prod.snd (Prod.snd d))) ([], 0, ()))) = 0))
 (some ((false, ()), ()))
 (ih
 (IntKind.wrap IntKind.i64
 (Prod.fst d + Prod.fst (Prod.snd (rdL (Prod.fst (Prod.snd d)) (Prod.snd (Prod.snd (Prod.snd d))) ([], 0, ())))),
 Prod.fst (Prod.snd d), Prod.fst (Prod.snd (Prod.snd d)), IntKind.wrap IntKind.i64 (Prod.snd (Prod.snd (Prod.snd d)) + 1)))))))
 (J (Prod.fst d))
def VF.impl_AreEntries (k : Nat) (a0 : List (List UInt8 × Int × Unit)) : Option ((Bool × Unit) × PUnit) :=
 join (VF.impl_AreEntries.j0 k a0) fun (J : Int → Option ((Bool × Unit) × PUnit)) => iter (VF.impl_AreEntries.l1 k J) k (0, a0, (List.length a0 : Int), 0)
def VF.impl_AreDocuments.j0 (a0 : List (Int × Int × List (List UInt8 × Int × Unit) × Unit)) (d : Unit) : Option ((Bool × Unit) × PUnit) :=
 some ((decide ((List.length a0 : Int) ≤ 120), ()), ())
def VF.impl_AreDocuments.l1 (k : Nat) (J : Unit → Option ((Bool × Unit) × PUnit)) (ih : List (Int × Int × List (List UInt8 × Int × Unit) × Unit) × Int × Int → Option ((Bool × Unit) × PUnit)) (d : List (Int × Int × List (List UInt8 × Int × Unit) × Unit) × Int × Int) : Option ((Bool × Unit) × PUnit) :=
 sel (decide (Prod.snd (Prod.snd d) < Prod.fst (Prod.snd d)))
 (grd (inb (Prod.fst d) (Prod.snd (Prod.snd d)))
 (sel (!decide (Prod.fst (rdL (Prod.fst d) (Prod.snd (Prod.snd d)) (0, 0, [], ())) = IntKind.wrap IntKind.i64 (Prod.snd (Prod.snd d) + 1)))
 (some ((false, ()), ()))
 (bnd (VF.impl_in k (Prod.fst (Prod.snd (rdL (Prod.fst d) (Prod.snd (Prod.snd d)) (0, 0, [], ())))) 0 999) fun (y : (Bool × Unit) × PUnit) =>
 sel (!Prod.fst (Prod.fst y)) (some ((false, ()), ()))
 (bnd (VF.impl_AreEntries k (Prod.fst (Prod.snd (Prod.snd (rdL (Prod.fst d) (Prod.snd (Prod.snd d)) (0, 0, [], ()))))))
 fun (y : (Bool × Unit) × PUnit) =>
 sel (!Prod.fst (Prod.fst y)) (some ((false, ()), ()))
 (ih (Prod.fst d, Prod.fst (Prod.snd d), IntKind.wrap IntKind.i64 (Prod.snd (Prod.snd d) + 1)))))))
 (J ())
def VF.impl_AreDocuments (k : Nat) (a0 : List (Int × Int × List (List UInt8 × Int × Unit) × Unit)) : Option ((Bool × Unit) × PUnit) :=
 join (VF.impl_AreDocuments.j0 a0) fun (J : Unit → Option ((Bool × Unit) × PUnit)) => iter (VF.impl_AreDocuments.l1 k J) k (a0, (List.length a0 : Int), 0)
def VF.impl_movement.j0 (k : Nat) (d : List (List UInt8 × Int × Unit)) : Option ((List (List UInt8 × Int × Unit) × Unit) × PUnit) :=
 bnd (VF.impl_totals k d) fun (y : (List (List UInt8 × Int × Unit) × Unit) × PUnit) => some ((Prod.fst (Prod.fst y), ()), ())
def VF.impl_movement.l1 (a1 : Int) (a2 : Int) (J : List (List UInt8 × Int × Unit) → Option ((List (List UInt8 × Int × Unit) × Unit) × PUnit)) (ih : List (List UInt8 × Int × Unit) × List (Int × Int × List (List UInt8 × Int × Unit) × Unit) × Int × Int →
 Option ((List (List UInt8 × Int × Unit) × Unit) × PUnit)) (d : List (List UInt8 × Int × Unit) × List (Int × Int × List (List UInt8 × Int × Unit) × Unit) × Int × Int) : Option ((List (List UInt8 × Int × Unit) × Unit) × PUnit) :=
 sel (decide (Prod.snd (Prod.snd (Prod.snd d)) < Prod.fst (Prod.snd (Prod.snd d))))
 (grd (inb (Prod.fst (Prod.snd d)) (Prod.snd (Prod.snd (Prod.snd d))))
 (sel (decide (a1 ≤ Prod.fst (Prod.snd (rdL (Prod.fst (Prod.snd d)) (Prod.snd (Prod.snd (Prod.snd d))) (0, 0, [], ())))))
 (sel (decide (Prod.fst (Prod.snd (rdL (Prod.fst (Prod.snd d)) (Prod.snd (Prod.snd (Prod.snd d))) (0, 0, [], ()))) ≤ a2))
 (grd
 (fits
 (List.length (Prod.fst d) +
 List.length (Prod.fst (Prod.snd (Prod.snd (rdL (Prod.fst (Prod.snd d)) (Prod.snd (Prod.snd (Prod.snd d))) (0, 0, [], ()))))))
 24)
 (ih
 (Prod.fst d ++ Prod.fst (Prod.snd (Prod.snd (rdL (Prod.fst (Prod.snd d)) (Prod.snd (Prod.snd (Prod.snd d))) (0, 0, [], ())))),
 Prod.fst (Prod.snd d), Prod.fst (Prod.snd (Prod.snd d)), IntKind.wrap IntKind.i64 (Prod.snd (Prod.snd (Prod.snd d)) + 1))))
 (ih (Prod.fst d, Prod.fst (Prod.snd d), Prod.fst (Prod.snd (Prod.snd d)), IntKind.wrap IntKind.i64 (Prod.snd (Prod.snd (Prod.snd d)) + 1))))
 (ih (Prod.fst d, Prod.fst (Prod.snd d), Prod.fst (Prod.snd (Prod.snd d)), IntKind.wrap IntKind.i64 (Prod.snd (Prod.snd (Prod.snd d)) + 1)))))
 (J (Prod.fst d))
def VF.impl_movement (k : Nat) (a0 : List (Int × Int × List (List UInt8 × Int × Unit) × Unit)) (a1 : Int) (a2 : Int) : Option ((List (List UInt8 × Int × Unit) × Unit) × PUnit) :=
 bnd (VF.impl_AreDocuments k a0) fun (y : (Bool × Unit) × PUnit) =>
 sel (!Prod.fst (Prod.fst y)) (some (([], ()), ()))
 (join (VF.impl_movement.j0 k) fun (J : List (List UInt8 × Int × Unit) → Option ((List (List UInt8 × Int × Unit) × Unit) × PUnit)) =>
 iter (VF.impl_movement.l1 a1 a2 J) k ([], a0, (List.length a0 : Int), 0))
def VF.impl_MovementOf (k : Nat) (a0 : List (Int × Int × List (List UInt8 × Int × Unit) × Unit)) (a1 : Int) (a2 : Int) : Option ((List (List UInt8 × Int × Unit) × Unit) × PUnit) :=
 bnd (VF.impl_movement k a0 a1 a2) fun (y : (List (List UInt8 × Int × Unit) × Unit) × PUnit) => some ((Prod.fst (Prod.fst y), ()), ())
def VF.laws_eqDocument (k : Nat) (a0 : Int × Int × List (List UInt8 × Int × Unit) × Unit) (a1 : Int × Int × List (List UInt8 × Int × Unit) × Unit) : Option ((Bool × Unit) × PUnit) :=
 sel (!decide (Prod.fst a0 = Prod.fst a1)) (some ((false, ()), ()))
 (sel (!decide (Prod.fst (Prod.snd a0) = Prod.fst (Prod.snd a1))) (some ((false, ()), ()))
 (bnd (VF.laws_eqEntryS k (Prod.fst (Prod.snd (Prod.snd a0))) (Prod.fst (Prod.snd (Prod.snd a1)))) fun (y : (Bool × Unit) × PUnit) =>
 sel (!Prod.fst (Prod.fst y)) (some ((false, ()), ())) (some ((true, ()), ()))))
def VF.laws_eqDocumentS.j0 (d : Unit) : Option ((Bool × Unit) × PUnit) :=
 some ((true, ()), ())
def VF.laws_eqDocumentS.l1 (k : Nat) (a0 : List (Int × Int × List (List UInt8 × Int × Unit) × Unit)) (a1 : List (Int × Int × List (List UInt8 × Int × Unit) × Unit)) (J : Unit → Option ((Bool × Unit) × PUnit)) (ih : Int → Option ((Bool × Unit) × PUnit)) (d : Int) : Option ((Bool × Unit) × PUnit) :=
 sel (decide (d < (List.length a0 : Int)))
 (grd (inb a0 d)
 (grd (inb a1 d)
 (bnd
 (VF.laws_eqDocument k
 (Prod.fst (rdL a0 d (0, 0, [], ())), Prod.fst (Prod.snd (rdL a0 d (0, 0, [], ()))),
 Prod.fst (Prod.snd (Prod.snd (rdL a0 d (0, 0, [], ())))), ())
 (Prod.fst (rdL a1 d (0, 0, [], ())), Prod.fst (Prod.snd (rdL a1 d (0, 0, [], ()))),
 Prod.fst (Prod.snd (Prod.snd (rdL a1 d (0, 0, [], ())))), ()))
 fun (y : (Bool × Unit) × PUnit) => sel (!Prod.fst (Prod.fst y)) (some ((false, ()), ())) (ih (IntKind.wrap IntKind.i64 (d + 1))))))
 (J ())
def VF.laws_eqDocumentS (k : Nat) (a0 : List (Int × Int × List (List UInt8 × Int × Unit) × Unit)) (a1 : List (Int × Int × List (List UInt8 × Int × Unit) × Unit)) : Option ((Bool × Unit) × PUnit) :=
 sel (!decide ((List.length a0 : Int) = (List.length a1 : Int))) (some ((false, ()), ()))
 (join VF.laws_eqDocumentS.j0 fun (J : Unit → Option ((Bool × Unit) × PUnit)) => iter (VF.laws_eqDocumentS.l1 k a0 a1 J) k 0)
def VF.laws_markDocumentS.j0 (d : List (Int × Int × List (List UInt8 × Int × Unit) × Unit) × Int) : Option ((Int × Unit) × List (Int × Int × List (List UInt8 × Int × Unit) × Unit) × Unit) :=
 some ((Prod.snd d, ()), Prod.fst d, ())
def VF.laws_markDocumentS.j1 (k : Nat) (ih : List (Int × Int × List (List UInt8 × Int × Unit) × Unit) × Int × Int →
 Option ((Int × Unit) × List (Int × Int × List (List UInt8 × Int × Unit) × Unit) × Unit)) (d : List (Int × Int × List (List UInt8 × Int × Unit) × Unit) × Int × Int) : Option ((Int × Unit) × List (Int × Int × List (List UInt8 × Int × Unit) × Unit) × Unit) :=
 grd (inb (Prod.fst d) (Prod.snd (Prod.snd d)))
 (bnd
 (VF.laws_markEntryS k (Prod.fst (Prod.snd (Prod.snd (rdL (Prod.fst d) (Prod.snd (Prod.snd d)) (0, 0, [], ())))))
 (IntKind.wrap IntKind.i64 (Prod.fst (Prod.snd d) + 1)))
 fun (y : (Int × Unit) × List (List UInt8 × Int × Unit) × Unit) =>
 ih
 (wrL (Prod.fst d) (Prod.snd (Prod.snd d))
 (Prod.fst (rdL (Prod.fst d) (Prod.snd (Prod.snd d)) (0, 0, [], ())),
 Prod.fst (Prod.snd (rdL (Prod.fst d) (Prod.snd (Prod.snd d)) (0, 0, [], ()))), Prod.fst (Prod.snd y),
 Prod.snd (Prod.snd (Prod.snd (rdL (Prod.fst d) (Prod.snd (Prod.snd d)) (0, 0, [], ()))))),
 Prod.fst (Prod.fst y), IntKind.wrap IntKind.i64 (Prod.snd (Prod.snd d) + 1)))
def VF.laws_markDocumentS.j2 (k : Nat) (ih : List (Int × Int × List (List UInt8 × Int × Unit) × Unit) × Int × Int →
 Option ((Int × Unit) × List (Int × Int × List (List UInt8 × Int × Unit) × Unit) × Unit)) (d : List (Int × Int × List (List UInt8 × Int × Unit) × Unit) × Int × Int) : Option ((Int × Unit) × List (Int × Int × List (List UInt8 × Int × Unit) × Unit) × Unit) :=
 join (VF.laws_markDocumentS.j1 k ih)
 fun
 (J :
 List (Int × Int × List (List UInt8 × Int × Unit) × Unit) × Int × Int →
 Option ((Int × Unit) × List (Int × Int × List (List UInt8 × Int × Unit) × Unit) × Unit)) =>
 grd (inb (Prod.fst d) (Prod.snd (Prod.snd d)))
 (J
 (wrL (Prod.fst d) (Prod.snd (Prod.snd d))
 (Prod.fst (rdL (Prod.fst d) (Prod.snd (Prod.snd d)) (0, 0, [], ())), IntKind.wrap IntKind.i64 (Prod.fst (Prod.snd d) + 1),
 Prod.snd (Prod.snd (rdL (Prod.fst d) (Prod.snd (Prod.snd d)) (0, 0, [], ())))),
 IntKind.wrap IntKind.i64 (Prod.fst (Prod.snd d) + 1), Prod.snd (Prod.snd d)))
def VF.laws_markDocumentS.l3 (k : Nat) (J : List (Int × Int × List (List UInt8 × Int × Unit) × Unit) × Int →
 Option ((Int × Unit) × List (Int × Int × List (List UInt8 × Int × Unit) × Unit) × Unit)) (ih : List (Int × Int × List (List UInt8 × Int × Unit) × Unit) × Int × Int →
 Option ((Int × Unit) × List (Int × Int × List (List UInt8 × Int × Unit) × Unit) × Unit)) (d : List (Int × Int × List (List UInt8 × Int × Unit) × Unit) × Int × Int) : Option ((Int × Unit) × List (Int × Int × List (List UInt8 × Int × Unit) × Unit) × Unit) :=
 sel (decide (Prod.snd (Prod.snd d) < (List.length (Prod.fst d) : Int)))
 (join (VF.laws_markDocumentS.j2 k ih)
 fun
 (J :
 List (Int × Int × List (List UInt8 × Int × Unit) × Unit) × Int × Int →
 Option ((Int × Unit) × List (Int × Int × List (List UInt8 × Int × Unit) × Unit) × Unit)) =>
 grd (inb (Prod.fst d) (Prod.snd (Prod.snd d)))
 (J
 (wrL (Prod.fst d) (Prod.snd (Prod.snd d)) (Prod.fst (Prod.snd d), Prod.snd (rdL (Prod.fst d) (Prod.snd (Prod.snd d)) (0, 0, [], ()))),
 Prod.fst (Prod.snd d), Prod.snd (Prod.snd d))))
 (J (Prod.fst d, Prod.fst (Prod.snd d)))
def VF.laws_markDocumentS (k : Nat) (a0 : List (Int × Int × List (List UInt8 × Int × Unit) × Unit)) (a1 : Int) : Option ((Int × Unit) × List (Int × Int × List (List UInt8 × Int × Unit) × Unit) × Unit) :=
 join VF.laws_markDocumentS.j0
 fun
 (J :
 List (Int × Int × List (List UInt8 × Int × Unit) × Unit) × Int →
 Option ((Int × Unit) × List (Int × Int × List (List UInt8 × Int × Unit) × Unit) × Unit)) =>
 iter (VF.laws_markDocumentS.l3 k J) k (a0, a1, 0)
def VF.laws_FnExactMovementOf.j0 (k : Nat) (a0 : List (Int × Int × List (List UInt8 × Int × Unit) × Unit)) (a1 : Int) (a2 : Int) (d : List (List UInt8 × Int × Unit) × List (List UInt8 × Int × Unit)) : Option ((Bool × Unit) × PUnit) :=
 bnd (VF.laws_markEntryS k (Prod.snd d) 1) fun (y : (Int × Unit) × List (List UInt8 × Int × Unit) × Unit) =>
 bnd (VF.laws_heldEntryS k (Prod.fst (Prod.snd y)) 1) fun (y_1 : (Int × Unit) × PUnit) =>
 sel (decide (Prod.fst (Prod.fst y_1) < 0)) (some ((false, ()), ()))
 (sel (!decide (Prod.fst (Prod.fst y_1) = Prod.fst (Prod.fst y))) (some ((false, ()), ()))
 (bnd (VF.laws_toDocumentS k a0) fun (y_2 : (List (Int × Int × List (List UInt8 × Int × Unit) × Unit) × Unit) × PUnit) =>
 bnd (VF.impl_MovementOf k (Prod.fst (Prod.fst y_2)) a1 a2) fun (y_3 : (List (List UInt8 × Int × Unit) × Unit) × PUnit) =>
 bnd (VF.laws_eqEntryS k (Prod.fst (Prod.fst y_3)) (Prod.fst d)) fun (y_4 : (Bool × Unit) × PUnit) =>
 sel (!Prod.fst (Prod.fst y_4)) (some ((false, ()), ()))
 (bnd (VF.laws_heldEntryS k (Prod.fst (Prod.snd y)) 1) fun (y_5 : (Int × Unit) × PUnit) =>
 sel (decide (Prod.fst (Prod.fst y_5) < 0)) (some ((false, ()), ()))
 (sel (!decide (Prod.fst (Prod.fst y_5) = Prod.fst (Prod.fst y))) (some ((false, ()), ())) (some ((true, ()), ()))))))
def VF.laws_FnExactMovementOf (k : Nat) (a0 : List (Int × Int × List (List UInt8 × Int × Unit) × Unit)) (a1 : Int) (a2 : Int) : Option ((Bool × Unit) × PUnit) :=
 bnd (VF.laws_szDocumentS k a0 1048576) fun (y : (Int × Unit) × PUnit) =>
 sel (decide (Prod.fst (Prod.fst y) < 0)) (some ((true, ()), ()))
 (bnd (VF.laws_toDocumentS k a0) fun (y : (List (Int × Int × List (List UInt8 × Int × Unit) × Unit) × Unit) × PUnit) =>
 bnd (VF.spec_MovementOf k (Prod.fst (Prod.fst y)) a1 a2) fun (y : (List (List UInt8 × Int × Unit) × Unit) × PUnit) =>
 bnd (VF.laws_toDocumentS k a0) fun (y_1 : (List (Int × Int × List (List UInt8 × Int × Unit) × Unit) × Unit) × PUnit) =>
 bnd (VF.impl_MovementOf k (Prod.fst (Prod.fst y_1)) a1 a2) fun (y_2 : (List (List UInt8 × Int × Unit) × Unit) × PUnit) =>
 bnd (VF.laws_eqEntryS k (Prod.fst (Prod.fst y_2)) (Prod.fst (Prod.fst y))) fun (y_3 : (Bool × Unit) × PUnit) =>
 sel (!Prod.fst (Prod.fst y_3)) (some ((false, ()), ()))
 (bnd (VF.laws_toDocumentS k a0) fun (y_4 : (List (Int × Int × List (List UInt8 × Int × Unit) × Unit) × Unit) × PUnit) =>
 bnd (VF.laws_eqDocumentS k (Prod.fst (Prod.fst y_1)) (Prod.fst (Prod.fst y_4))) fun (y_5 : (Bool × Unit) × PUnit) =>
 sel (!Prod.fst (Prod.fst y_5)) (some ((false, ()), ()))
 (bnd (VF.laws_markDocumentS k (Prod.fst (Prod.fst y_1)) 1)
 fun (y_6 : (Int × Unit) × List (Int × Int × List (List UInt8 × Int × Unit) × Unit) × Unit) =>
 join (VF.laws_FnExactMovementOf.j0 k a0 a1 a2)
 fun (J : List (List UInt8 × Int × Unit) × List (List UInt8 × Int × Unit) → Option ((Bool × Unit) × PUnit)) =>
 sel (decide (Prod.fst (Prod.fst y_6) < 0)) (some ((false, ()), ()))
 (bnd (VF.laws_eqEntryS k (Prod.fst (Prod.fst y_2)) (Prod.fst (Prod.fst y))) fun (y_7 : (Bool × Unit) × PUnit) =>
 sel (!Prod.fst (Prod.fst y_7)) (some ((false, ()), ())) (J (Prod.fst (Prod.fst y), Prod.fst (Prod.fst y_2)))))))
