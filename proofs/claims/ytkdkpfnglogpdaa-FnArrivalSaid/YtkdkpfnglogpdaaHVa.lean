/- More functions, as printed. -/
import Derived.Test.YtkdkpfnglogpdaaGVa
set_option linter.unusedVariables false
open Go VM
def VF.laws_big (k : Nat) (a0 : List Int) : Option ((Bool × Unit) × PUnit) :=
 some ((decide (1048576 < (List.length a0 : Int)), ()), ())
def VF.spec_l1New.j0 (a0 : List Int) (d : Int) : Option (((List Int × Int × Int × Unit) × Unit) × PUnit) :=
 some (((a0, 0, d, ()), ()), ())
def VF.spec_l1New.l1 (a0 : List Int) (J : Int → Option (((List Int × Int × Int × Unit) × Unit) × PUnit)) (ih : Int × Int → Option (((List Int × Int × Int × Unit) × Unit) × PUnit)) (d : Int × Int) : Option (((List Int × Int × Int × Unit) × Unit) × PUnit) :=
 sel (decide (Prod.snd d < (List.length a0 : Int)))
 (sel (decide (Prod.snd d < 4000))
 (grd (inb a0 (Prod.snd d))
 (ih
 (bitI BinOp.and IntKind.i64
 (IntKind.wrap IntKind.i64
 (IntKind.wrap IntKind.i64 (IntKind.wrap IntKind.i64 (Prod.fst d * 131) + IntKind.wrap IntKind.i64 (rdL a0 (Prod.snd d) 0)) + 7))
 1073741823,
 IntKind.wrap IntKind.i64 (Prod.snd d + 1))))
 (J (Prod.fst d)))
 (J (Prod.fst d))
def VF.spec_l1New (k : Nat) (a0 : List Int) : Option (((List Int × Int × Int × Unit) × Unit) × PUnit) :=
 join (VF.spec_l1New.j0 a0) fun (J : Int → Option (((List Int × Int × Int × Unit) × Unit) × PUnit)) =>
 iter (VF.spec_l1New.l1 a0 J) k (IntKind.wrap IntKind.i64 (10101 + (List.length a0 : Int)), 0)
def VF.spec_l1Byte (k : Nat) (a0 : List Int × Int × Int × Unit) : Option ((Int × Unit) × (List Int × Int × Int × Unit) × Unit) :=
 sel (decide (Prod.fst (Prod.snd a0) < (List.length (Prod.fst a0) : Int)))
 (grd (inb (Prod.fst a0) (Prod.fst (Prod.snd a0)))
 (some
 ((bitI BinOp.and IntKind.i64
 (IntKind.wrap IntKind.i64
 (bitI BinOp.and IntKind.i64
 (bitI BinOp.xor IntKind.i64
 (shrI IntKind.i64
 (IntKind.wrap IntKind.i64
 (IntKind.wrap IntKind.i64 (Prod.fst (Prod.snd (Prod.snd a0)) * 6364136223846793005) + 1442695040888963407))
 33)
 (shrI IntKind.i64
 (IntKind.wrap IntKind.i64
 (IntKind.wrap IntKind.i64 (Prod.fst (Prod.snd (Prod.snd a0)) * 6364136223846793005) + 1442695040888963407))
 45))
 255 +
 IntKind.wrap IntKind.i64 (rdL (Prod.fst a0) (Prod.fst (Prod.snd a0)) 0)))
 255,
 ()),
 (Prod.fst a0, IntKind.wrap IntKind.i64 (Prod.fst (Prod.snd a0) + 1),
 IntKind.wrap IntKind.i64 (IntKind.wrap IntKind.i64 (Prod.fst (Prod.snd (Prod.snd a0)) * 6364136223846793005) + 1442695040888963407), ()),
 ())))
 (some
 ((bitI BinOp.and IntKind.i64
 (bitI BinOp.xor IntKind.i64
 (shrI IntKind.i64
 (IntKind.wrap IntKind.i64 (IntKind.wrap IntKind.i64 (Prod.fst (Prod.snd (Prod.snd a0)) * 6364136223846793005) + 1442695040888963407))
 33)
 (shrI IntKind.i64
 (IntKind.wrap IntKind.i64 (IntKind.wrap IntKind.i64 (Prod.fst (Prod.snd (Prod.snd a0)) * 6364136223846793005) + 1442695040888963407))
 45))
 255,
 ()),
 (Prod.fst a0, Prod.fst (Prod.snd a0),
 IntKind.wrap IntKind.i64 (IntKind.wrap IntKind.i64 (Prod.fst (Prod.snd (Prod.snd a0)) * 6364136223846793005) + 1442695040888963407), ()),
 ()))
def VF.spec_l1Below (k : Nat) (a0 : List Int × Int × Int × Unit) (a1 : Int) : Option ((Int × Unit) × (List Int × Int × Int × Unit) × Unit) :=
 sel (decide (a1 ≤ 0)) (some ((0, ()), (Prod.fst a0, Prod.fst (Prod.snd a0), Prod.fst (Prod.snd (Prod.snd a0)), ()), ()))
 (sel (decide (a1 ≤ 256))
 (bnd (VF.spec_l1Byte k (Prod.fst a0, Prod.fst (Prod.snd a0), Prod.fst (Prod.snd (Prod.snd a0)), ()))
 fun (y : (Int × Unit) × (List Int × Int × Int × Unit) × Unit) =>
 grd (!decide (a1 = 0))
 (some
 ((Int.tmod (Prod.fst (Prod.fst y)) a1, ()),
 (Prod.fst (Prod.fst (Prod.snd y)), Prod.fst (Prod.snd (Prod.fst (Prod.snd y))), Prod.fst (Prod.snd (Prod.snd (Prod.fst (Prod.snd y)))),
 ()),
 ())))
 (bnd (VF.spec_l1Byte k (Prod.fst a0, Prod.fst (Prod.snd a0), Prod.fst (Prod.snd (Prod.snd a0)), ()))
 fun (y : (Int × Unit) × (List Int × Int × Int × Unit) × Unit) =>
 bnd
 (VF.spec_l1Byte k
 (Prod.fst (Prod.fst (Prod.snd y)), Prod.fst (Prod.snd (Prod.fst (Prod.snd y))), Prod.fst (Prod.snd (Prod.snd (Prod.fst (Prod.snd y)))), ()))
 fun (y_1 : (Int × Unit) × (List Int × Int × Int × Unit) × Unit) =>
 bnd
 (VF.spec_l1Byte k
 (Prod.fst (Prod.fst (Prod.snd y_1)), Prod.fst (Prod.snd (Prod.fst (Prod.snd y_1))),
 Prod.fst (Prod.snd (Prod.snd (Prod.fst (Prod.snd y_1)))), ()))
 fun (y_2 : (Int × Unit) × (List Int × Int × Int × Unit) × Unit) =>
 bnd
 (VF.spec_l1Byte k
 (Prod.fst (Prod.fst (Prod.snd y_2)), Prod.fst (Prod.snd (Prod.fst (Prod.snd y_2))),
 Prod.fst (Prod.snd (Prod.snd (Prod.fst (Prod.snd y_2)))), ()))
 fun (y_3 : (Int × Unit) × (List Int × Int × Int × Unit) × Unit) =>
 grd (!decide (a1 = 0))
 (some
 ((Int.tmod
 (IntKind.wrap IntKind.i64
 (IntKind.wrap IntKind.i64
 (IntKind.wrap IntKind.i64
 (IntKind.wrap IntKind.i64 (Prod.fst (Prod.fst y) * 16777216) +
 IntKind.wrap IntKind.i64 (Prod.fst (Prod.fst y_1) * 65536)) +
 IntKind.wrap IntKind.i64 (Prod.fst (Prod.fst y_2) * 256)) +
 Prod.fst (Prod.fst y_3)))
 a1,
 ()),
 (Prod.fst (Prod.fst (Prod.snd y_3)), Prod.fst (Prod.snd (Prod.fst (Prod.snd y_3))),
 Prod.fst (Prod.snd (Prod.snd (Prod.fst (Prod.snd y_3)))), ()),
 ()))))
def VF.spec_l1Once (k : Nat) (a0 : List Int × Int × Int × Unit) (a1 : Int) : Option ((Bool × Unit) × (List Int × Int × Int × Unit) × Unit) :=
 bnd (VF.spec_l1Below k (Prod.fst a0, Prod.fst (Prod.snd a0), Prod.fst (Prod.snd (Prod.snd a0)), ()) a1)
 fun (y : (Int × Unit) × (List Int × Int × Int × Unit) × Unit) =>
 some
 ((decide (Prod.fst (Prod.fst y) = 0), ()),
 (Prod.fst (Prod.fst (Prod.snd y)), Prod.fst (Prod.snd (Prod.fst (Prod.snd y))), Prod.fst (Prod.snd (Prod.snd (Prod.fst (Prod.snd y)))), ()), ())
def VF.spec_l1PickInt (k : Nat) (a0 : List Int × Int × Int × Unit) (a1 : List Int) : Option ((Int × Unit) × (List Int × Int × Int × Unit) × Unit) :=
 bnd (VF.spec_l1Below k (Prod.fst a0, Prod.fst (Prod.snd a0), Prod.fst (Prod.snd (Prod.snd a0)), ()) (List.length a1 : Int))
 fun (y : (Int × Unit) × (List Int × Int × Int × Unit) × Unit) =>
 grd (inb a1 (Prod.fst (Prod.fst y)))
 (some
 ((rdL a1 (Prod.fst (Prod.fst y)) 0, ()),
 (Prod.fst (Prod.fst (Prod.snd y)), Prod.fst (Prod.snd (Prod.fst (Prod.snd y))), Prod.fst (Prod.snd (Prod.snd (Prod.fst (Prod.snd y)))), ()),
 ()))
def VF.spec_l4Day (k : Nat) (a0 : List Int × Int × Int × Unit) : Option ((Int × Unit) × (List Int × Int × Int × Unit) × Unit) :=
 bnd (VF.spec_l1Once k (Prod.fst a0, Prod.fst (Prod.snd a0), Prod.fst (Prod.snd (Prod.snd a0)), ()) 12)
 fun (y : (Bool × Unit) × (List Int × Int × Int × Unit) × Unit) =>
 sel (Prod.fst (Prod.fst y))
 (bnd
 (VF.spec_l1PickInt k
 (Prod.fst (Prod.fst (Prod.snd y)), Prod.fst (Prod.snd (Prod.fst (Prod.snd y))), Prod.fst (Prod.snd (Prod.snd (Prod.fst (Prod.snd y)))), ())
 [-1, 999, 1000, 998, -9223372036854775808, 9223372036854775807])
 fun (y : (Int × Unit) × (List Int × Int × Int × Unit) × Unit) =>
 some
 ((Prod.fst (Prod.fst y), ()),
 (Prod.fst (Prod.fst (Prod.snd y)), Prod.fst (Prod.snd (Prod.fst (Prod.snd y))), Prod.fst (Prod.snd (Prod.snd (Prod.fst (Prod.snd y)))), ()),
 ()))
 (bnd
 (VF.spec_l1Below k
 (Prod.fst (Prod.fst (Prod.snd y)), Prod.fst (Prod.snd (Prod.fst (Prod.snd y))), Prod.fst (Prod.snd (Prod.snd (Prod.fst (Prod.snd y)))), ())
 40)
 fun (y : (Int × Unit) × (List Int × Int × Int × Unit) × Unit) =>
 some
 ((Prod.fst (Prod.fst y), ()),
 (Prod.fst (Prod.fst (Prod.snd y)), Prod.fst (Prod.snd (Prod.fst (Prod.snd y))), Prod.fst (Prod.snd (Prod.snd (Prod.fst (Prod.snd y)))), ()),
 ()))
def VF.spec_l1Odd (k : Nat) (a0 : List Int × Int × Int × Unit) : Option ((Int × Unit) × (List Int × Int × Int × Unit) × Unit) :=
 bnd
 (VF.spec_l1PickInt k (Prod.fst a0, Prod.fst (Prod.snd a0), Prod.fst (Prod.snd (Prod.snd a0)), ())
 [0, 1, -1, 2, 1000000, 1000001, -1000001, 1000000000, 1000000001, 9223372036854775807, -9223372036854775808])
 fun (y : (Int × Unit) × (List Int × Int × Int × Unit) × Unit) =>
 some
 ((Prod.fst (Prod.fst y), ()),
 (Prod.fst (Prod.fst (Prod.snd y)), Prod.fst (Prod.snd (Prod.fst (Prod.snd y))), Prod.fst (Prod.snd (Prod.snd (Prod.fst (Prod.snd y)))), ()), ())
def VF.spec_l1Pick (k : Nat) (a0 : List Int × Int × Int × Unit) (a1 : List (List UInt8)) : Option ((List UInt8 × Unit) × (List Int × Int × Int × Unit) × Unit) :=
 bnd (VF.spec_l1Below k (Prod.fst a0, Prod.fst (Prod.snd a0), Prod.fst (Prod.snd (Prod.snd a0)), ()) (List.length a1 : Int))
 fun (y : (Int × Unit) × (List Int × Int × Int × Unit) × Unit) =>
 grd (inb a1 (Prod.fst (Prod.fst y)))
 (some
 ((rdL a1 (Prod.fst (Prod.fst y)) [], ()),
 (Prod.fst (Prod.fst (Prod.snd y)), Prod.fst (Prod.snd (Prod.fst (Prod.snd y))), Prod.fst (Prod.snd (Prod.snd (Prod.fst (Prod.snd y)))), ()),
 ()))
def VF.spec_l35Account (k : Nat) (a0 : List Int × Int × Int × Unit) : Option ((List UInt8 × Unit) × (List Int × Int × Int × Unit) × Unit) :=
 bnd
 (VF.spec_l1Pick k (Prod.fst a0, Prod.fst (Prod.snd a0), Prod.fst (Prod.snd (Prod.snd a0)), ())
 [Array.toList #[67, 65, 83, 72], Array.toList #[83, 84, 79, 67, 75], Array.toList #[83, 65, 76, 69, 83], Array.toList #[67, 79, 83, 84],
 Array.toList #[87, 79, 82, 75], Array.toList #[83, 85, 80, 80, 76, 89]])
 fun (y : (List UInt8 × Unit) × (List Int × Int × Int × Unit) × Unit) =>
 some
 ((Prod.fst (Prod.fst y), ()),
 (Prod.fst (Prod.fst (Prod.snd y)), Prod.fst (Prod.snd (Prod.fst (Prod.snd y))), Prod.fst (Prod.snd (Prod.snd (Prod.fst (Prod.snd y)))), ()), ())
def VF.spec_l35Entries.j0 (k : Nat) (d : (List Int × Int × Int) × List (List UInt8 × Int × Unit)) : Option ((List (List UInt8 × Int × Unit) × Unit) × (List Int × Int × Int × Unit) × Unit) :=
 bnd (VF.spec_l1Once k (Prod.fst (Prod.fst d), Prod.fst (Prod.snd (Prod.fst d)), Prod.snd (Prod.snd (Prod.fst d)), ()) 24)
 fun (y : (Bool × Unit) × (List Int × Int × Int × Unit) × Unit) =>
 sel (Prod.fst (Prod.fst y))
 (bnd
 (VF.spec_l1Odd k
 (Prod.fst (Prod.fst (Prod.snd y)), Prod.fst (Prod.snd (Prod.fst (Prod.snd y))), Prod.fst (Prod.snd (Prod.snd (Prod.fst (Prod.snd y)))), ()))
 fun (y : (Int × Unit) × (List Int × Int × Int × Unit) × Unit) =>
 grd (inb (Prod.snd d) 0)
 (some
 ((wrL (Prod.snd d) 0
 (Prod.fst (rdL (Prod.snd d) 0 ([], 0, ())), Prod.fst (Prod.fst y), Prod.snd (Prod.snd (rdL (Prod.snd d) 0 ([], 0, ())))),
 ()),
 (Prod.fst (Prod.fst (Prod.snd y)), Prod.fst (Prod.snd (Prod.fst (Prod.snd y))), Prod.fst (Prod.snd (Prod.snd (Prod.fst (Prod.snd y)))),
 ()),
 ())))
 (some
 ((Prod.snd d, ()),
 (Prod.fst (Prod.fst (Prod.snd y)), Prod.fst (Prod.snd (Prod.fst (Prod.snd y))), Prod.fst (Prod.snd (Prod.snd (Prod.fst (Prod.snd y)))), ()),
 ()))
def VF.spec_l35Entries.j1 (k : Nat) (d : (List Int × Int × Int) × List (List UInt8 × Int × Unit) × Int) : Option ((List (List UInt8 × Int × Unit) × Unit) × (List Int × Int × Int × Unit) × Unit) :=
 join (VF.spec_l35Entries.j0 k)
 fun
 (J :
 (List Int × Int × Int) × List (List UInt8 × Int × Unit) →
 Option ((List (List UInt8 × Int × Unit) × Unit) × (List Int × Int × Int × Unit) × Unit)) =>
 sel (!decide (Prod.snd (Prod.snd d) = 0))
 (bnd (VF.spec_l1Once k (Prod.fst (Prod.fst d), Prod.fst (Prod.snd (Prod.fst d)), Prod.snd (Prod.snd (Prod.fst d)), ()) 20)
 fun (y : (Bool × Unit) × (List Int × Int × Int × Unit) × Unit) =>
 sel (!Prod.fst (Prod.fst y))
 (bnd
 (VF.spec_l35Account k
 (Prod.fst (Prod.fst (Prod.snd y)), Prod.fst (Prod.snd (Prod.fst (Prod.snd y))), Prod.fst (Prod.snd (Prod.snd (Prod.fst (Prod.snd y)))),
 ()))
 fun (y : (List UInt8 × Unit) × (List Int × Int × Int × Unit) × Unit) =>
 grd
 (fits
 (List.length (Prod.fst (Prod.snd d)) + List.length [(Prod.fst (Prod.fst y), IntKind.wrap IntKind.i64 (0 - Prod.snd (Prod.snd d)), ())])
 24)
 (J
 ((Prod.fst (Prod.fst (Prod.snd y)), Prod.fst (Prod.snd (Prod.fst (Prod.snd y))),
 Prod.fst (Prod.snd (Prod.snd (Prod.fst (Prod.snd y))))),
 Prod.fst (Prod.snd d) ++ [(Prod.fst (Prod.fst y), IntKind.wrap IntKind.i64 (0 - Prod.snd (Prod.snd d)), ())])))
 (J
 ((Prod.fst (Prod.fst (Prod.snd y)), Prod.fst (Prod.snd (Prod.fst (Prod.snd y))), Prod.fst (Prod.snd (Prod.snd (Prod.fst (Prod.snd y))))),
 Prod.fst (Prod.snd d))))
 (J ((Prod.fst (Prod.fst d), Prod.fst (Prod.snd (Prod.fst d)), Prod.snd (Prod.snd (Prod.fst d))), Prod.fst (Prod.snd d)))
def VF.spec_l35Entries.l2 (k : Nat) (J : (List Int × Int × Int) × List (List UInt8 × Int × Unit) × Int →
 Option ((List (List UInt8 × Int × Unit) × Unit) × (List Int × Int × Int × Unit) × Unit)) (ih : (List Int × Int × Int) × List (List UInt8 × Int × Unit) × Int × Int →
 Option ((List (List UInt8 × Int × Unit) × Unit) × (List Int × Int × Int × Unit) × Unit)) (d : (List Int × Int × Int) × List (List UInt8 × Int × Unit) × Int × Int) : Option ((List (List UInt8 × Int × Unit) × Unit) × (List Int × Int × Int × Unit) × Unit) :=
 sel (decide (0 < Prod.snd (Prod.snd (Prod.snd d))))
 (bnd (VF.spec_l35Account k (Prod.fst (Prod.fst d), Prod.fst (Prod.snd (Prod.fst d)), Prod.snd (Prod.snd (Prod.fst d)), ()))
 fun (y : (List UInt8 × Unit) × (List Int × Int × Int × Unit) × Unit) =>
 bnd
 (VF.spec_l1Below k
 (Prod.fst (Prod.fst (Prod.snd y)), Prod.fst (Prod.snd (Prod.fst (Prod.snd y))), Prod.fst (Prod.snd (Prod.snd (Prod.fst (Prod.snd y)))), ())
 199)
 fun (y_1 : (Int × Unit) × (List Int × Int × Int × Unit) × Unit) =>
 sel (decide (IntKind.wrap IntKind.i64 (Prod.fst (Prod.fst y_1) - 99) = 0))
 (grd (fits (List.length (Prod.fst (Prod.snd d)) + List.length [(Prod.fst (Prod.fst y), 100, ())]) 24)
 (ih
 ((Prod.fst (Prod.fst (Prod.snd y_1)), Prod.fst (Prod.snd (Prod.fst (Prod.snd y_1))),
 Prod.fst (Prod.snd (Prod.snd (Prod.fst (Prod.snd y_1))))),
 Prod.fst (Prod.snd d) ++ [(Prod.fst (Prod.fst y), 100, ())], IntKind.wrap IntKind.i64 (Prod.fst (Prod.snd (Prod.snd d)) + 100),
 IntKind.wrap IntKind.i64 (Prod.snd (Prod.snd (Prod.snd d)) - 1))))
 (grd
 (fits
 (List.length (Prod.fst (Prod.snd d)) + List.length [(Prod.fst (Prod.fst y), IntKind.wrap IntKind.i64 (Prod.fst (Prod.fst y_1) - 99), ())])
 24)
 (ih
 ((Prod.fst (Prod.fst (Prod.snd y_1)), Prod.fst (Prod.snd (Prod.fst (Prod.snd y_1))),
 Prod.fst (Prod.snd (Prod.snd (Prod.fst (Prod.snd y_1))))),
 Prod.fst (Prod.snd d) ++ [(Prod.fst (Prod.fst y), IntKind.wrap IntKind.i64 (Prod.fst (Prod.fst y_1) - 99), ())],
 IntKind.wrap IntKind.i64 (Prod.fst (Prod.snd (Prod.snd d)) + IntKind.wrap IntKind.i64 (Prod.fst (Prod.fst y_1) - 99)),
 IntKind.wrap IntKind.i64 (Prod.snd (Prod.snd (Prod.snd d)) - 1)))))
 (J
 ((Prod.fst (Prod.fst d), Prod.fst (Prod.snd (Prod.fst d)), Prod.snd (Prod.snd (Prod.fst d))), Prod.fst (Prod.snd d),
 Prod.fst (Prod.snd (Prod.snd d))))
def VF.spec_l35Entries (k : Nat) (a0 : List Int × Int × Int × Unit) : Option ((List (List UInt8 × Int × Unit) × Unit) × (List Int × Int × Int × Unit) × Unit) :=
 join (VF.spec_l35Entries.j1 k)
 fun
 (J :
 (List Int × Int × Int) × List (List UInt8 × Int × Unit) × Int →
 Option ((List (List UInt8 × Int × Unit) × Unit) × (List Int × Int × Int × Unit) × Unit)) =>
 bnd (VF.spec_l1Below k (Prod.fst a0, Prod.fst (Prod.snd a0), Prod.fst (Prod.snd (Prod.snd a0)), ()) 3)
 fun (y : (Int × Unit) × (List Int × Int × Int × Unit) × Unit) =>
 iter (VF.spec_l35Entries.l2 k J) k
 ((Prod.fst (Prod.fst (Prod.snd y)), Prod.fst (Prod.snd (Prod.fst (Prod.snd y))), Prod.fst (Prod.snd (Prod.snd (Prod.fst (Prod.snd y))))), [], 0,
 IntKind.wrap IntKind.i64 (1 + Prod.fst (Prod.fst y)))
def VF.spec_l35Copy.j0 (d : List (Int × Int × List (List UInt8 × Int × Unit) × Unit)) : Option ((List (Int × Int × List (List UInt8 × Int × Unit) × Unit) × Unit) × PUnit) :=
 some ((d, ()), ())
def VF.spec_l35Copy.l1 (a0 : List (Int × Int × List (List UInt8 × Int × Unit) × Unit)) (J : List (Int × Int × List (List UInt8 × Int × Unit) × Unit) → Option ((List (Int × Int × List (List UInt8 × Int × Unit) × Unit) × Unit) × PUnit)) (ih : List (Int × Int × List (List UInt8 × Int × Unit) × Unit) × Int → Option ((List (Int × Int × List (List UInt8 × Int × Unit) × Unit) × Unit) × PUnit)) (d : List (Int × Int × List (List UInt8 × Int × Unit) × Unit) × Int) : Option ((List (Int × Int × List (List UInt8 × Int × Unit) × Unit) × Unit) × PUnit) :=
 sel (decide (Prod.snd d < (List.length a0 : Int)))
 (grd (inb a0 (Prod.snd d))
 (grd (inb a0 (Prod.snd d))
 (grd (inb a0 (Prod.snd d))
 (grd (fits (0 + List.length (Prod.fst (Prod.snd (Prod.snd (rdL a0 (Prod.snd d) (0, 0, [], ())))))) 24)
 (grd
 (fits
 (List.length (Prod.fst d) +
 List.length
 [(Prod.fst (rdL a0 (Prod.snd d) (0, 0, [], ())), Prod.fst (Prod.snd (rdL a0 (Prod.snd d) (0, 0, [], ()))),
 [] ++ Prod.fst (Prod.snd (Prod.snd (rdL a0 (Prod.snd d) (0, 0, [], ())))), ())])
 40)
 (ih
 (Prod.fst d ++
 [(Prod.fst (rdL a0 (Prod.snd d) (0, 0, [], ())), Prod.fst (Prod.snd (rdL a0 (Prod.snd d) (0, 0, [], ()))),
 [] ++ Prod.fst (Prod.snd (Prod.snd (rdL a0 (Prod.snd d) (0, 0, [], ())))), ())],
 IntKind.wrap IntKind.i64 (Prod.snd d + 1))))))))
 (J (Prod.fst d))
def VF.spec_l35Copy (k : Nat) (a0 : List (Int × Int × List (List UInt8 × Int × Unit) × Unit)) : Option ((List (Int × Int × List (List UInt8 × Int × Unit) × Unit) × Unit) × PUnit) :=
 join VF.spec_l35Copy.j0
 fun
 (J :
 List (Int × Int × List (List UInt8 × Int × Unit) × Unit) →
 Option ((List (Int × Int × List (List UInt8 × Int × Unit) × Unit) × Unit) × PUnit)) =>
 iter (VF.spec_l35Copy.l1 a0 J) k ([], 0)
def VF.spec_PostEntries (k : Nat) (a0 : List (Int × Int × List (List UInt8 × Int × Unit) × Unit)) (a1 : Int) (a2 : List (List UInt8 × Int × Unit)) : Option ((List (Int × Int × List (List UInt8 × Int × Unit) × Unit) × Bool × Unit) × PUnit) :=
 bnd (VF.spec_l35Copy k a0) fun (y : (List (Int × Int × List (List UInt8 × Int × Unit) × Unit) × Unit) × PUnit) =>
 grd (fits (0 + List.length a2) 24)
 (grd (fits (List.length (Prod.fst (Prod.fst y)) + List.length [(IntKind.wrap IntKind.i64 ((List.length a0 : Int) + 1), a1, [] ++ a2, ())]) 40)
 (bnd (VF.spec_AreDocuments k (Prod.fst (Prod.fst y) ++ [(IntKind.wrap IntKind.i64 ((List.length a0 : Int) + 1), a1, [] ++ a2, ())]))
 fun (y_1 : (Bool × Unit) × PUnit) =>
 sel (!Prod.fst (Prod.fst y_1)) (some (([], false, ()), ()))
 (some ((Prod.fst (Prod.fst y) ++ [(IntKind.wrap IntKind.i64 ((List.length a0 : Int) + 1), a1, [] ++ a2, ())], true, ()), ()))))
def VF.spec_BalanceOf.j0 (d : Int) : Option ((Int × Unit) × PUnit) :=
 some ((d, ()), ())
def VF.spec_BalanceOf.j1 (ih : Int × Int → Option ((Int × Unit) × PUnit)) (d : Int × Int) : Option ((Int × Unit) × PUnit) :=
 ih (Prod.fst d, IntKind.wrap IntKind.i64 (Prod.snd d + 1))
def VF.spec_BalanceOf.l2 (a0 : List (Int × Int × List (List UInt8 × Int × Unit) × Unit)) (a1 : List UInt8) (a2 : Int) (J : Int × Int → Option ((Int × Unit) × PUnit)) (ih : Int × Int × Int → Option ((Int × Unit) × PUnit)) (d : Int × Int × Int) : Option ((Int × Unit) × PUnit) :=
 grd (inb a0 (Prod.fst (Prod.snd d)))
 (sel (decide (Prod.snd (Prod.snd d) < (List.length (Prod.fst (Prod.snd (Prod.snd (rdL a0 (Prod.fst (Prod.snd d)) (0, 0, [], ()))))) : Int)))
 (grd (inb a0 (Prod.fst (Prod.snd d)))
 (sel (decide (Prod.fst (Prod.snd (rdL a0 (Prod.fst (Prod.snd d)) (0, 0, [], ()))) ≤ a2))
 (grd (inb a0 (Prod.fst (Prod.snd d)))
 (grd (inb (Prod.fst (Prod.snd (Prod.snd (rdL a0 (Prod.fst (Prod.snd d)) (0, 0, [], ()))))) (Prod.snd (Prod.snd d)))
 (sel
 (decide
 (Prod.fst (rdL (Prod.fst (Prod.snd (Prod.snd (rdL a0 (Prod.fst (Prod.snd d)) (0, 0, [], ()))))) (Prod.snd (Prod.snd d)) ([], 0, ())) =
 a1))
 (grd (inb a0 (Prod.fst (Prod.snd d)))
 (grd (inb (Prod.fst (Prod.snd (Prod.snd (rdL a0 (Prod.fst (Prod.snd d)) (0, 0, [], ()))))) (Prod.snd (Prod.snd d)))
 (ih
 (IntKind.wrap IntKind.i64
 (Prod.fst d +
 Prod.fst
 (Prod.snd
 (rdL (Prod.fst (Prod.snd (Prod.snd (rdL a0 (Prod.fst (Prod.snd d)) (0, 0, [], ()))))) (Prod.snd (Prod.snd d))
 ([], 0, ())))),
 Prod.fst (Prod.snd d), IntKind.wrap IntKind.i64 (Prod.snd (Prod.snd d) + 1)))))
 (ih (Prod.fst d, Prod.fst (Prod.snd d), IntKind.wrap IntKind.i64 (Prod.snd (Prod.snd d) + 1))))))
 (J (Prod.fst d, Prod.fst (Prod.snd d)))))
 (J (Prod.fst d, Prod.fst (Prod.snd d))))
def VF.spec_BalanceOf.l3 (k : Nat) (a0 : List (Int × Int × List (List UInt8 × Int × Unit) × Unit)) (a1 : List UInt8) (a2 : Int) (J : Int → Option ((Int × Unit) × PUnit)) (ih : Int × Int → Option ((Int × Unit) × PUnit)) (d : Int × Int) : Option ((Int × Unit) × PUnit) :=
 sel (decide (Prod.snd d < (List.length a0 : Int)))
 (bnd (VF.spec_AreDocuments k a0) fun (y : (Bool × Unit) × PUnit) =>
 sel (Prod.fst (Prod.fst y))
 (join (VF.spec_BalanceOf.j1 ih) fun (J : Int × Int → Option ((Int × Unit) × PUnit)) =>
 iter (VF.spec_BalanceOf.l2 a0 a1 a2 J) k (Prod.fst d, Prod.snd d, 0))
 (J (Prod.fst d)))
 (J (Prod.fst d))
def VF.spec_BalanceOf (k : Nat) (a0 : List (Int × Int × List (List UInt8 × Int × Unit) × Unit)) (a1 : List UInt8) (a2 : Int) : Option ((Int × Unit) × PUnit) :=
 join VF.spec_BalanceOf.j0 fun (J : Int → Option ((Int × Unit) × PUnit)) => iter (VF.spec_BalanceOf.l3 k a0 a1 a2 J) k (0, 0)
