/- More functions, as printed. -/
import Derived.Test.YtkdkpfnglogpdaaJVa
set_option linter.unusedVariables false
open Go VM
abbrev TEv := Int × Int × Int × List UInt8 × Int × Int × Int × Unit
abbrev TLay := Int × Int × Int × Unit
abbrev TEnt := List UInt8 × Int × Unit
abbrev TDoc := Int × Int × List TEnt × Unit
abbrev TShelf := List UInt8 × List Int × List TLay × Unit
abbrev TBooks := List TShelf × Int × List TDoc × Unit
abbrev TCur := List Int × Int × Int × Unit
abbrev TClerk := List TEv × Bool × Int × Unit
abbrev TOffice := List TEv × List TClerk × Unit
def VF.impl_IsEvent.j0 (k : Nat) (d : (Int × Int × Int × List UInt8 × Int × Int × Int) × Int × Bool) : Option ((Bool × Unit) × Unit) :=
 sel d.2.2
 (bnd (VF.impl_in k d.1.2.2.2.2.1 1 100000) fun (y : (Bool × Unit) × Unit) =>
 sel y.1.1
 (bnd (VF.impl_in k d.1.2.2.2.2.2.1 1 100000) fun (y : (Bool × Unit) × Unit) =>
 sel y.1.1 (some ((decide (d.1.2.2.2.2.2.2 = 0), ()), ())) (some ((false, ()), ())))
 (some ((false, ()), ())))
 (sel (decide (d.2.1 = 2))
 (bnd (VF.impl_in k d.1.2.2.2.2.1 1 100000) fun (y : (Bool × Unit) × Unit) =>
 sel y.1.1
 (sel (decide (d.1.2.2.2.2.2.1 = 0)) (some ((decide (d.1.2.2.2.2.2.2 = 0), ()), ()))
 (some ((false, ()), ())))
 (some ((false, ()), ())))
 (sel (decide (d.2.1 = 5))
 (sel (decide (d.1.2.2.2.2.1 = 0))
 (bnd (VF.impl_in k d.1.2.2.2.2.2.1 (-100000) 100000) fun (y : (Bool × Unit) × Unit) =>
 sel y.1.1
 (sel (!decide (d.1.2.2.2.2.2.1 = 0))
 (bnd (VF.impl_in k d.1.2.2.2.2.2.2 1 9999) fun (y : (Bool × Unit) × Unit) => some ((y.1.1, ()), ()))
 (some ((false, ()), ())))
 (some ((false, ()), ())))
 (some ((false, ()), ())))
 (some ((false, ()), ()))))
def VF.impl_IsEvent.j1 (k : Nat) (d : Int × Int × Int × List UInt8 × Int × Int × Int) : Option ((Bool × Unit) × Unit) :=
 join (VF.impl_IsEvent.j0 k) fun (J : (Int × Int × Int × List UInt8 × Int × Int × Int) × Int × Bool → Option ((Bool × Unit) × Unit)) =>
 sel (decide (d.2.2.1 = 1))
 (J
 ((d.1, d.2.1, d.2.2.1, d.2.2.2.1, d.2.2.2.2.1, d.2.2.2.2.2.1, d.2.2.2.2.2.2),
 d.2.2.1, decide (d.2.2.1 = 1)))
 (sel (decide (d.2.2.1 = 3))
 (J
 ((d.1, d.2.1, d.2.2.1, d.2.2.2.1, d.2.2.2.2.1, d.2.2.2.2.2.1, d.2.2.2.2.2.2),
 d.2.2.1, decide (d.2.2.1 = 3)))
 (J
 ((d.1, d.2.1, d.2.2.1, d.2.2.2.1, d.2.2.2.2.1, d.2.2.2.2.2.1, d.2.2.2.2.2.2),
 d.2.2.1, decide (d.2.2.1 = 4))))
def VF.impl_IsEvent (k : Nat) (a0 : Int × Int × Int × List UInt8 × Int × Int × Int × Unit) : Option ((Bool × Unit) × Unit) :=
 join (VF.impl_IsEvent.j1 k) fun (J : Int × Int × Int × List UInt8 × Int × Int × Int → Option ((Bool × Unit) × Unit)) =>
 bnd (VF.impl_in k a0.1 1 9999) fun (y : (Bool × Unit) × Unit) =>
 sel (!y.1.1) (some ((false, ()), ()))
 (bnd (VF.impl_in k a0.2.1 0 999) fun (y : (Bool × Unit) × Unit) =>
 sel (!y.1.1) (some ((false, ()), ()))
 (bnd (VF.impl_IsCode k a0.2.2.2.1) fun (y : (Bool × Unit) × Unit) =>
 sel (!y.1.1) (some ((false, ()), ()))
 (J
 (a0.1, a0.2.1, a0.2.2.1, a0.2.2.2.1, a0.2.2.2.2.1, a0.2.2.2.2.2.1,
 a0.2.2.2.2.2.2.1))))
def VF.cmp_isNaN_int (k : Nat) (a0 : Int) : Option ((Bool × Unit) × Unit) :=
 some ((!decide (a0 = a0), ()), ())
def VF.cmp_Compare_int (k : Nat) (a0 : Int) (a1 : Int) : Option ((Int × Unit) × Unit) :=
 bnd (VF.cmp_isNaN_int k a0) fun (y : (Bool × Unit) × Unit) =>
 bnd (VF.cmp_isNaN_int k a1) fun (y_1 : (Bool × Unit) × Unit) =>
 sel y.1.1 (sel y_1.1.1 (some ((0, ()), ())) (some ((-1, ()), ())))
 (sel y_1.1.1 (some ((1, ()), ()))
 (sel (decide (a0 < a1)) (some ((-1, ()), ()))
 (sel (decide (a1 < a0)) (some ((1, ()), ())) (some ((0, ()), ())))))
def VF.slices_Compare_int_int.j0 (a0 : List Int) (a1 : List Int) (d : Unit) : Option ((Int × Unit) × Unit) :=
 sel (decide ((List.length a0 : Int) < (List.length a1 : Int))) (some ((-1, ()), ())) (some ((0, ()), ()))
def VF.slices_Compare_int_int.l1 (k : Nat) (a1 : List Int) (J : Unit → Option ((Int × Unit) × Unit)) (ih : List Int × Int × Int → Option ((Int × Unit) × Unit)) (d : List Int × Int × Int) : Option ((Int × Unit) × Unit) :=
 sel (decide (d.2.2 < d.2.1))
 (grd (inb d.1 d.2.2)
 (sel (decide ((List.length a1 : Int) ≤ d.2.2)) (some ((1, ()), ()))
 (grd (inb a1 d.2.2)
 (bnd (VF.cmp_Compare_int k (rdL d.1 d.2.2 0) (rdL a1 d.2.2 0)) fun (y : (Int × Unit) × Unit) =>
 sel (!decide (y.1.1 = 0)) (some ((y.1.1, ()), ()))
 (ih (d.1, d.2.1, IntKind.wrap IntKind.i64 (d.2.2 + 1)))))))
 (J ())
def VF.slices_Compare_int_int (k : Nat) (a0 : List Int) (a1 : List Int) : Option ((Int × Unit) × Unit) :=
 join (VF.slices_Compare_int_int.j0 a0 a1) fun (J : Unit → Option ((Int × Unit) × Unit)) =>
 iter (VF.slices_Compare_int_int.l1 k a1 J) k (a0, (List.length a0 : Int), 0)
def VF.impl_compareEvents (k : Nat) (a0 : Int × Int × Int × List UInt8 × Int × Int × Int × Unit) (a1 : Int × Int × Int × List UInt8 × Int × Int × Int × Unit) : Option ((Int × Unit) × Unit) :=
 bnd
 (VF.slices_Compare_int_int k
 [a0.2.1, a0.1, a0.2.2.1, a0.2.2.2.2.1, a0.2.2.2.2.2.1, a0.2.2.2.2.2.2.1]
 [a1.2.1, a1.1, a1.2.2.1, a1.2.2.2.2.1, a1.2.2.2.2.2.1, a1.2.2.2.2.2.2.1])
 fun (y : (Int × Unit) × Unit) =>
 sel (!decide (y.1.1 = 0)) (some ((y.1.1, ()), ()))
 (sel (ltS a0.2.2.2.1 a1.2.2.2.1) (some ((-1, ()), ()))
 (sel (!(ltS a0.2.2.2.1 a1.2.2.2.1 || decide (a0.2.2.2.1 = a1.2.2.2.1))) (some ((1, ()), ()))
 (some ((0, ()), ()))))
def VF.slices_insertionSortCmpFunc_impl_Event.j0 (ih : List TEv × Int →
 Option (Unit × List TEv × Unit)) (d : List TEv × Int) : Option (Unit × List TEv × Unit) :=
 ih (d.1, IntKind.wrap IntKind.i64 (d.2 + 1))
def VF.slices_insertionSortCmpFunc_impl_Event.l1 (k : Nat) (a1 : Int) (J : List TEv × Int →
 Option (Unit × List TEv × Unit)) (ih : List TEv × Int × Int →
 Option (Unit × List TEv × Unit)) (d : List TEv × Int × Int) : Option (Unit × List TEv × Unit) :=
 sel (decide (a1 < d.2.2))
 (grd (inb d.1 d.2.2)
 (grd (inb d.1 (IntKind.wrap IntKind.i64 (d.2.2 - 1)))
 (bnd
 (VF.impl_compareEvents k
 ((rdL d.1 d.2.2 (0, 0, 0, [], 0, 0, 0, ())).1, (rdL d.1 d.2.2 (0, 0, 0, [], 0, 0, 0, ())).2.1,
 (rdL d.1 d.2.2 (0, 0, 0, [], 0, 0, 0, ())).2.2.1,
 (rdL d.1 d.2.2 (0, 0, 0, [], 0, 0, 0, ())).2.2.2.1,
 (rdL d.1 d.2.2 (0, 0, 0, [], 0, 0, 0, ())).2.2.2.2.1,
 (rdL d.1 d.2.2 (0, 0, 0, [], 0, 0, 0, ())).2.2.2.2.2.1,
 (rdL d.1 d.2.2 (0, 0, 0, [], 0, 0, 0, ())).2.2.2.2.2.2.1, ())
 ((rdL d.1 (IntKind.wrap IntKind.i64 (d.2.2 - 1)) (0, 0, 0, [], 0, 0, 0, ())).1,
 (rdL d.1 (IntKind.wrap IntKind.i64 (d.2.2 - 1)) (0, 0, 0, [], 0, 0, 0, ())).2.1,
 (rdL d.1 (IntKind.wrap IntKind.i64 (d.2.2 - 1)) (0, 0, 0, [], 0, 0, 0, ())).2.2.1,
 (rdL d.1 (IntKind.wrap IntKind.i64 (d.2.2 - 1)) (0, 0, 0, [], 0, 0, 0, ())).2.2.2.1,
 (rdL d.1 (IntKind.wrap IntKind.i64 (d.2.2 - 1)) (0, 0, 0, [], 0, 0, 0, ())).2.2.2.2.1,
 (rdL d.1 (IntKind.wrap IntKind.i64 (d.2.2 - 1)) (0, 0, 0, [], 0, 0, 0, ())).2.2.2.2.2.1,
 (rdL d.1 (IntKind.wrap IntKind.i64 (d.2.2 - 1)) (0, 0, 0, [], 0, 0, 0, ())).2.2.2.2.2.2.1, ()))
 fun (y : (Int × Unit) × Unit) =>
 sel (decide (y.1.1 < 0))
 (grd (inb d.1 (IntKind.wrap IntKind.i64 (d.2.2 - 1)))
 (grd (inb d.1 d.2.2)
 (grd (inb d.1 d.2.2)
 (grd
 (inb
 (wrL d.1 d.2.2
 ((rdL d.1 (IntKind.wrap IntKind.i64 (d.2.2 - 1)) (0, 0, 0, [], 0, 0, 0, ())).1,
 (rdL d.1 (IntKind.wrap IntKind.i64 (d.2.2 - 1)) (0, 0, 0, [], 0, 0, 0, ())).2.1,
 (rdL d.1 (IntKind.wrap IntKind.i64 (d.2.2 - 1)) (0, 0, 0, [], 0, 0, 0, ())).2.2.1,
 (rdL d.1 (IntKind.wrap IntKind.i64 (d.2.2 - 1)) (0, 0, 0, [], 0, 0, 0, ())).2.2.2.1,
 (rdL d.1 (IntKind.wrap IntKind.i64 (d.2.2 - 1)) (0, 0, 0, [], 0, 0, 0, ())).2.2.2.2.1,
 (rdL d.1 (IntKind.wrap IntKind.i64 (d.2.2 - 1)) (0, 0, 0, [], 0, 0, 0, ())).2.2.2.2.2.1,
 (rdL d.1 (IntKind.wrap IntKind.i64 (d.2.2 - 1)) (0, 0, 0, [], 0, 0, 0, ())).2.2.2.2.2.2.1,
 ()))
 (IntKind.wrap IntKind.i64 (d.2.2 - 1)))
 (ih
 (wrL
 (wrL d.1 d.2.2
 ((rdL d.1 (IntKind.wrap IntKind.i64 (d.2.2 - 1)) (0, 0, 0, [], 0, 0, 0, ())).1,
 (rdL d.1 (IntKind.wrap IntKind.i64 (d.2.2 - 1)) (0, 0, 0, [], 0, 0, 0, ())).2.1,
 (rdL d.1 (IntKind.wrap IntKind.i64 (d.2.2 - 1)) (0, 0, 0, [], 0, 0, 0, ())).2.2.1,
 (rdL d.1 (IntKind.wrap IntKind.i64 (d.2.2 - 1)) (0, 0, 0, [], 0, 0, 0, ())).2.2.2.1,
 (rdL d.1 (IntKind.wrap IntKind.i64 (d.2.2 - 1)) (0, 0, 0, [], 0, 0, 0, ())).2.2.2.2.1,
 (rdL d.1 (IntKind.wrap IntKind.i64 (d.2.2 - 1)) (0, 0, 0, [], 0, 0, 0, ())).2.2.2.2.2.1,
 (rdL d.1 (IntKind.wrap IntKind.i64 (d.2.2 - 1)) (0, 0, 0, [], 0, 0, 0, ())).2.2.2.2.2.2.1,
 ()))
 (IntKind.wrap IntKind.i64 (d.2.2 - 1))
 ((rdL d.1 d.2.2 (0, 0, 0, [], 0, 0, 0, ())).1,
 (rdL d.1 d.2.2 (0, 0, 0, [], 0, 0, 0, ())).2.1,
 (rdL d.1 d.2.2 (0, 0, 0, [], 0, 0, 0, ())).2.2.1,
 (rdL d.1 d.2.2 (0, 0, 0, [], 0, 0, 0, ())).2.2.2.1,
 (rdL d.1 d.2.2 (0, 0, 0, [], 0, 0, 0, ())).2.2.2.2.1,
 (rdL d.1 d.2.2 (0, 0, 0, [], 0, 0, 0, ())).2.2.2.2.2.1,
 (rdL d.1 d.2.2 (0, 0, 0, [], 0, 0, 0, ())).2.2.2.2.2.2.1, ()),
 d.2.1, IntKind.wrap IntKind.i64 (d.2.2 - 1)))))))
 (J (d.1, d.2.1)))))
 (J (d.1, d.2.1))
def VF.slices_insertionSortCmpFunc_impl_Event.l2 (k : Nat) (a1 : Int) (a2 : Int) (ih : List TEv × Int →
 Option (Unit × List TEv × Unit)) (d : List TEv × Int) : Option (Unit × List TEv × Unit) :=
 sel (decide (d.2 < a2))
 (join (VF.slices_insertionSortCmpFunc_impl_Event.j0 ih)
 fun
 (J :
 List TEv × Int →
 Option (Unit × List TEv × Unit)) =>
 iter (VF.slices_insertionSortCmpFunc_impl_Event.l1 k a1 J) k (d.1, d.2, d.2))
 (some ((), d.1, ()))
def VF.slices_insertionSortCmpFunc_impl_Event (k : Nat) (a0 : List TEv) (a1 : Int) (a2 : Int) : Option (Unit × List TEv × Unit) :=
 iter (VF.slices_insertionSortCmpFunc_impl_Event.l2 k a1 a2) k (a0, IntKind.wrap IntKind.i64 (a1 + 1))
def VF.slices_swapRangeCmpFunc_impl_Event.l0 (a1 : Int) (a2 : Int) (a3 : Int) (ih : List TEv × Int →
 Option (Unit × List TEv × Unit)) (d : List TEv × Int) : Option (Unit × List TEv × Unit) :=
 sel (decide (d.2 < a3))
 (grd (inb d.1 (IntKind.wrap IntKind.i64 (a2 + d.2)))
 (grd (inb d.1 (IntKind.wrap IntKind.i64 (a1 + d.2)))
 (grd (inb d.1 (IntKind.wrap IntKind.i64 (a1 + d.2)))
 (grd
 (inb
 (wrL d.1 (IntKind.wrap IntKind.i64 (a1 + d.2))
 ((rdL d.1 (IntKind.wrap IntKind.i64 (a2 + d.2)) (0, 0, 0, [], 0, 0, 0, ())).1,
 (rdL d.1 (IntKind.wrap IntKind.i64 (a2 + d.2)) (0, 0, 0, [], 0, 0, 0, ())).2.1,
 (rdL d.1 (IntKind.wrap IntKind.i64 (a2 + d.2)) (0, 0, 0, [], 0, 0, 0, ())).2.2.1,
 (rdL d.1 (IntKind.wrap IntKind.i64 (a2 + d.2)) (0, 0, 0, [], 0, 0, 0, ())).2.2.2.1,
 (rdL d.1 (IntKind.wrap IntKind.i64 (a2 + d.2)) (0, 0, 0, [], 0, 0, 0, ())).2.2.2.2.1,
 (rdL d.1 (IntKind.wrap IntKind.i64 (a2 + d.2)) (0, 0, 0, [], 0, 0, 0, ())).2.2.2.2.2.1,
 (rdL d.1 (IntKind.wrap IntKind.i64 (a2 + d.2)) (0, 0, 0, [], 0, 0, 0, ())).2.2.2.2.2.2.1, ()))
 (IntKind.wrap IntKind.i64 (a2 + d.2)))
 (ih
 (wrL
 (wrL d.1 (IntKind.wrap IntKind.i64 (a1 + d.2))
 ((rdL d.1 (IntKind.wrap IntKind.i64 (a2 + d.2)) (0, 0, 0, [], 0, 0, 0, ())).1,
 (rdL d.1 (IntKind.wrap IntKind.i64 (a2 + d.2)) (0, 0, 0, [], 0, 0, 0, ())).2.1,
 (rdL d.1 (IntKind.wrap IntKind.i64 (a2 + d.2)) (0, 0, 0, [], 0, 0, 0, ())).2.2.1,
 (rdL d.1 (IntKind.wrap IntKind.i64 (a2 + d.2)) (0, 0, 0, [], 0, 0, 0, ())).2.2.2.1,
 (rdL d.1 (IntKind.wrap IntKind.i64 (a2 + d.2)) (0, 0, 0, [], 0, 0, 0, ())).2.2.2.2.1,
 (rdL d.1 (IntKind.wrap IntKind.i64 (a2 + d.2)) (0, 0, 0, [], 0, 0, 0, ())).2.2.2.2.2.1,
 (rdL d.1 (IntKind.wrap IntKind.i64 (a2 + d.2)) (0, 0, 0, [], 0, 0, 0, ())).2.2.2.2.2.2.1, ()))
 (IntKind.wrap IntKind.i64 (a2 + d.2))
 ((rdL d.1 (IntKind.wrap IntKind.i64 (a1 + d.2)) (0, 0, 0, [], 0, 0, 0, ())).1,
 (rdL d.1 (IntKind.wrap IntKind.i64 (a1 + d.2)) (0, 0, 0, [], 0, 0, 0, ())).2.1,
 (rdL d.1 (IntKind.wrap IntKind.i64 (a1 + d.2)) (0, 0, 0, [], 0, 0, 0, ())).2.2.1,
 (rdL d.1 (IntKind.wrap IntKind.i64 (a1 + d.2)) (0, 0, 0, [], 0, 0, 0, ())).2.2.2.1,
 (rdL d.1 (IntKind.wrap IntKind.i64 (a1 + d.2)) (0, 0, 0, [], 0, 0, 0, ())).2.2.2.2.1,
 (rdL d.1 (IntKind.wrap IntKind.i64 (a1 + d.2)) (0, 0, 0, [], 0, 0, 0, ())).2.2.2.2.2.1,
 (rdL d.1 (IntKind.wrap IntKind.i64 (a1 + d.2)) (0, 0, 0, [], 0, 0, 0, ())).2.2.2.2.2.2.1, ()),
 IntKind.wrap IntKind.i64 (d.2 + 1)))))))
 (some ((), d.1, ()))
def VF.slices_swapRangeCmpFunc_impl_Event (k : Nat) (a0 : List TEv) (a1 : Int) (a2 : Int) (a3 : Int) : Option (Unit × List TEv × Unit) :=
 iter (VF.slices_swapRangeCmpFunc_impl_Event.l0 a1 a2 a3) k (a0, 0)
def VF.slices_rotateCmpFunc_impl_Event.j0 (k : Nat) (a2 : Int) (d : List TEv × Int) : Option (Unit × List TEv × Unit) :=
 bnd (VF.slices_swapRangeCmpFunc_impl_Event k d.1 (IntKind.wrap IntKind.i64 (a2 - d.2)) a2 d.2)
 fun (y : Unit × List TEv × Unit) => some ((), y.2.1, ())
def VF.slices_rotateCmpFunc_impl_Event.l1 (k : Nat) (a2 : Int) (J : List TEv × Int →
 Option (Unit × List TEv × Unit)) (ih : List TEv × Int × Int →
 Option (Unit × List TEv × Unit)) (d : List TEv × Int × Int) : Option (Unit × List TEv × Unit) :=
 sel (!decide (d.2.1 = d.2.2))
 (sel (decide (d.2.2 < d.2.1))
 (bnd (VF.slices_swapRangeCmpFunc_impl_Event k d.1 (IntKind.wrap IntKind.i64 (a2 - d.2.1)) a2 d.2.2)
 fun (y : Unit × List TEv × Unit) =>
 ih (y.2.1, IntKind.wrap IntKind.i64 (d.2.1 - d.2.2), d.2.2))
 (bnd
 (VF.slices_swapRangeCmpFunc_impl_Event k d.1 (IntKind.wrap IntKind.i64 (a2 - d.2.1))
 (IntKind.wrap IntKind.i64 (IntKind.wrap IntKind.i64 (a2 + d.2.2) - d.2.1)) d.2.1)
 fun (y : Unit × List TEv × Unit) =>
 ih (y.2.1, d.2.1, IntKind.wrap IntKind.i64 (d.2.2 - d.2.1))))
 (J (d.1, d.2.1))
def VF.slices_rotateCmpFunc_impl_Event (k : Nat) (a0 : List TEv) (a1 : Int) (a2 : Int) (a3 : Int) : Option (Unit × List TEv × Unit) :=
 join (VF.slices_rotateCmpFunc_impl_Event.j0 k a2)
 fun
 (J :
 List TEv × Int →
 Option (Unit × List TEv × Unit)) =>
 iter (VF.slices_rotateCmpFunc_impl_Event.l1 k a2 J) k (a0, IntKind.wrap IntKind.i64 (a2 - a1), IntKind.wrap IntKind.i64 (a3 - a2))
def VF.slices_symMergeCmpFunc_impl_Event.step.j0 (self : Nat →
 List TEv →
 Int → Int → Int → Option (Unit × List TEv × Unit)) (k : Nat) (a3 : Int) (d : List TEv × Int × Int) : Option (Unit × List TEv × Unit) :=
 sel (decide (d.2.1 < d.2.2))
 (sel (decide (d.2.2 < a3))
 (bnd (self k d.1 d.2.1 d.2.2 a3) fun (y : Unit × List TEv × Unit) =>
 some ((), y.2.1, ()))
 (some ((), d.1, ())))
 (some ((), d.1, ()))
def VF.slices_symMergeCmpFunc_impl_Event.step.j1 (self : Nat →
 List TEv →
 Int → Int → Int → Option (Unit × List TEv × Unit)) (k : Nat) (a1 : Int) (a3 : Int) (d : List TEv × Int × Int × Int) : Option (Unit × List TEv × Unit) :=
 join (VF.slices_symMergeCmpFunc_impl_Event.step.j0 self k a3)
 fun
 (J :
 List TEv × Int × Int →
 Option (Unit × List TEv × Unit)) =>
 sel (decide (a1 < d.2.2.1))
 (sel (decide (d.2.2.1 < d.2.1))
 (bnd (self k d.1 a1 d.2.2.1 d.2.1) fun (y : Unit × List TEv × Unit) =>
 J (y.2.1, d.2.1, d.2.2.2))
 (J (d.1, d.2.1, d.2.2.2)))
 (J (d.1, d.2.1, d.2.2.2))
def VF.slices_symMergeCmpFunc_impl_Event.step.j2 (self : Nat →
 List TEv →
 Int → Int → Int → Option (Unit × List TEv × Unit)) (k : Nat) (a1 : Int) (a2 : Int) (a3 : Int) (d : List TEv × Int × Int × Int) : Option (Unit × List TEv × Unit) :=
 join (VF.slices_symMergeCmpFunc_impl_Event.step.j1 self k a1 a3)
 fun
 (J :
 List TEv × Int × Int × Int →
 Option (Unit × List TEv × Unit)) =>
 sel (decide (d.2.2.2 < a2))
 (sel (decide (a2 < IntKind.wrap IntKind.i64 (d.2.2.1 - d.2.2.2)))
 (bnd (VF.slices_rotateCmpFunc_impl_Event k d.1 d.2.2.2 a2 (IntKind.wrap IntKind.i64 (d.2.2.1 - d.2.2.2)))
 fun (y : Unit × List TEv × Unit) =>
 J (y.2.1, d.2.1, d.2.2.2, IntKind.wrap IntKind.i64 (d.2.2.1 - d.2.2.2)))
 (J (d.1, d.2.1, d.2.2.2, IntKind.wrap IntKind.i64 (d.2.2.1 - d.2.2.2))))
 (J (d.1, d.2.1, d.2.2.2, IntKind.wrap IntKind.i64 (d.2.2.1 - d.2.2.2)))
def VF.slices_symMergeCmpFunc_impl_Event.step.l3 (k : Nat) (J : List TEv × Int × Int × Int →
 Option (Unit × List TEv × Unit)) (ih : List TEv × Int × Int × Int × Int × Int →
 Option (Unit × List TEv × Unit)) (d : List TEv × Int × Int × Int × Int × Int) : Option (Unit × List TEv × Unit) :=
 sel (decide (d.2.2.2.1 < d.2.2.2.2.1))
 (grd
 (inb d.1
 (IntKind.wrap IntKind.i64
 (d.2.2.2.2.2 -
 IntKind.wrap IntKind.i64
 (shrI IntKind.u64 (IntKind.wrap IntKind.u64 (IntKind.wrap IntKind.i64 (d.2.2.2.1 + d.2.2.2.2.1))) 1))))
 (grd
 (inb d.1
 (IntKind.wrap IntKind.i64
 (shrI IntKind.u64 (IntKind.wrap IntKind.u64 (IntKind.wrap IntKind.i64 (d.2.2.2.1 + d.2.2.2.2.1))) 1)))
 (bnd
 (VF.impl_compareEvents k
 ((rdL d.1
 (IntKind.wrap IntKind.i64
 (d.2.2.2.2.2 -
 IntKind.wrap IntKind.i64
 (shrI IntKind.u64 (IntKind.wrap IntKind.u64 (IntKind.wrap IntKind.i64 (d.2.2.2.1 + d.2.2.2.2.1))) 1)))
 (0, 0, 0, [], 0, 0, 0, ())).1,
 (rdL d.1
 (IntKind.wrap IntKind.i64
 (d.2.2.2.2.2 -
 IntKind.wrap IntKind.i64
 (shrI IntKind.u64 (IntKind.wrap IntKind.u64 (IntKind.wrap IntKind.i64 (d.2.2.2.1 + d.2.2.2.2.1))) 1)))
 (0, 0, 0, [], 0, 0, 0, ())).2.1,
 (rdL d.1
 (IntKind.wrap IntKind.i64
 (d.2.2.2.2.2 -
 IntKind.wrap IntKind.i64
 (shrI IntKind.u64 (IntKind.wrap IntKind.u64 (IntKind.wrap IntKind.i64 (d.2.2.2.1 + d.2.2.2.2.1))) 1)))
 (0, 0, 0, [], 0, 0, 0, ())).2.2.1,
 (rdL d.1
 (IntKind.wrap IntKind.i64
 (d.2.2.2.2.2 -
 IntKind.wrap IntKind.i64
 (shrI IntKind.u64 (IntKind.wrap IntKind.u64 (IntKind.wrap IntKind.i64 (d.2.2.2.1 + d.2.2.2.2.1))) 1)))
 (0, 0, 0, [], 0, 0, 0, ())).2.2.2.1,
 (rdL d.1
 (IntKind.wrap IntKind.i64
 (d.2.2.2.2.2 -
 IntKind.wrap IntKind.i64
 (shrI IntKind.u64 (IntKind.wrap IntKind.u64 (IntKind.wrap IntKind.i64 (d.2.2.2.1 + d.2.2.2.2.1))) 1)))
 (0, 0, 0, [], 0, 0, 0, ())).2.2.2.2.1,
 (rdL d.1
 (IntKind.wrap IntKind.i64
 (d.2.2.2.2.2 -
 IntKind.wrap IntKind.i64
 (shrI IntKind.u64 (IntKind.wrap IntKind.u64 (IntKind.wrap IntKind.i64 (d.2.2.2.1 + d.2.2.2.2.1)))
 1)))
 (0, 0, 0, [], 0, 0, 0, ())).2.2.2.2.2.1,
 (rdL d.1
 (IntKind.wrap IntKind.i64
 (d.2.2.2.2.2 -
 IntKind.wrap IntKind.i64
 (shrI IntKind.u64 (IntKind.wrap IntKind.u64 (IntKind.wrap IntKind.i64 (d.2.2.2.1 + d.2.2.2.2.1)))
 1)))
 (0, 0, 0, [], 0, 0, 0, ())).2.2.2.2.2.2.1,
 ())
 ((rdL d.1
 (IntKind.wrap IntKind.i64
 (shrI IntKind.u64 (IntKind.wrap IntKind.u64 (IntKind.wrap IntKind.i64 (d.2.2.2.1 + d.2.2.2.2.1))) 1))
 (0, 0, 0, [], 0, 0, 0, ())).1,
 (rdL d.1
 (IntKind.wrap IntKind.i64
 (shrI IntKind.u64 (IntKind.wrap IntKind.u64 (IntKind.wrap IntKind.i64 (d.2.2.2.1 + d.2.2.2.2.1))) 1))
 (0, 0, 0, [], 0, 0, 0, ())).2.1,
 (rdL d.1
 (IntKind.wrap IntKind.i64
 (shrI IntKind.u64 (IntKind.wrap IntKind.u64 (IntKind.wrap IntKind.i64 (d.2.2.2.1 + d.2.2.2.2.1))) 1))
 (0, 0, 0, [], 0, 0, 0, ())).2.2.1,
 (rdL d.1
 (IntKind.wrap IntKind.i64
 (shrI IntKind.u64 (IntKind.wrap IntKind.u64 (IntKind.wrap IntKind.i64 (d.2.2.2.1 + d.2.2.2.2.1))) 1))
 (0, 0, 0, [], 0, 0, 0, ())).2.2.2.1,
 (rdL d.1
 (IntKind.wrap IntKind.i64
 (shrI IntKind.u64 (IntKind.wrap IntKind.u64 (IntKind.wrap IntKind.i64 (d.2.2.2.1 + d.2.2.2.2.1))) 1))
 (0, 0, 0, [], 0, 0, 0, ())).2.2.2.2.1,
 (rdL d.1
 (IntKind.wrap IntKind.i64
 (shrI IntKind.u64 (IntKind.wrap IntKind.u64 (IntKind.wrap IntKind.i64 (d.2.2.2.1 + d.2.2.2.2.1))) 1))
 (0, 0, 0, [], 0, 0, 0, ())).2.2.2.2.2.1,
 (rdL d.1
 (IntKind.wrap IntKind.i64
 (shrI IntKind.u64 (IntKind.wrap IntKind.u64 (IntKind.wrap IntKind.i64 (d.2.2.2.1 + d.2.2.2.2.1))) 1))
 (0, 0, 0, [], 0, 0, 0, ())).2.2.2.2.2.2.1,
 ()))
 fun (y : (Int × Unit) × Unit) =>
 sel (!decide (y.1.1 < 0))
 (ih
 (d.1, d.2.1, d.2.2.1,
 IntKind.wrap IntKind.i64
 (IntKind.wrap IntKind.i64
 (shrI IntKind.u64 (IntKind.wrap IntKind.u64 (IntKind.wrap IntKind.i64 (d.2.2.2.1 + d.2.2.2.2.1))) 1) +
 1),
 d.2.2.2.2.1, d.2.2.2.2.2))
 (ih
 (d.1, d.2.1, d.2.2.1, d.2.2.2.1,
 IntKind.wrap IntKind.i64
 (shrI IntKind.u64 (IntKind.wrap IntKind.u64 (IntKind.wrap IntKind.i64 (d.2.2.2.1 + d.2.2.2.2.1))) 1),
 d.2.2.2.2.2)))))
 (J (d.1, d.2.1, d.2.2.1, d.2.2.2.1))
def VF.slices_symMergeCmpFunc_impl_Event.step.j4 (self : Nat →
 List TEv →
 Int → Int → Int → Option (Unit × List TEv × Unit)) (k : Nat) (a1 : Int) (a2 : Int) (a3 : Int) (d : List TEv × Int × Int × Int × Int) : Option (Unit × List TEv × Unit) :=
 join (VF.slices_symMergeCmpFunc_impl_Event.step.j2 self k a1 a2 a3)
 fun
 (J :
 List TEv × Int × Int × Int →
 Option (Unit × List TEv × Unit)) =>
 iter (VF.slices_symMergeCmpFunc_impl_Event.step.l3 k J) k
 (d.1, d.2.1, d.2.2.1, d.2.2.2.1, d.2.2.2.2, IntKind.wrap IntKind.i64 (d.2.2.1 - 1))
def VF.slices_symMergeCmpFunc_impl_Event.step.j5 (self : Nat →
 List TEv →
 Int → Int → Int → Option (Unit × List TEv × Unit)) (k : Nat) (a1 : Int) (a2 : Int) (a3 : Int) (d : List TEv) : Option (Unit × List TEv × Unit) :=
 join (VF.slices_symMergeCmpFunc_impl_Event.step.j4 self k a1 a2 a3)
 fun
 (J :
 List TEv × Int × Int × Int × Int →
 Option (Unit × List TEv × Unit)) =>
 sel (decide (IntKind.wrap IntKind.i64 (shrI IntKind.u64 (IntKind.wrap IntKind.u64 (IntKind.wrap IntKind.i64 (a1 + a3))) 1) < a2))
 (J
 (d, IntKind.wrap IntKind.i64 (shrI IntKind.u64 (IntKind.wrap IntKind.u64 (IntKind.wrap IntKind.i64 (a1 + a3))) 1),
 IntKind.wrap IntKind.i64 (IntKind.wrap IntKind.i64 (shrI IntKind.u64 (IntKind.wrap IntKind.u64 (IntKind.wrap IntKind.i64 (a1 + a3))) 1) + a2),
 IntKind.wrap IntKind.i64
 (IntKind.wrap IntKind.i64
 (IntKind.wrap IntKind.i64 (shrI IntKind.u64 (IntKind.wrap IntKind.u64 (IntKind.wrap IntKind.i64 (a1 + a3))) 1) + a2) -
 a3),
 IntKind.wrap IntKind.i64 (shrI IntKind.u64 (IntKind.wrap IntKind.u64 (IntKind.wrap IntKind.i64 (a1 + a3))) 1)))
 (J
 (d, IntKind.wrap IntKind.i64 (shrI IntKind.u64 (IntKind.wrap IntKind.u64 (IntKind.wrap IntKind.i64 (a1 + a3))) 1),
 IntKind.wrap IntKind.i64 (IntKind.wrap IntKind.i64 (shrI IntKind.u64 (IntKind.wrap IntKind.u64 (IntKind.wrap IntKind.i64 (a1 + a3))) 1) + a2),
 a1, a2))
def VF.slices_symMergeCmpFunc_impl_Event.step.j6 (d : List TEv) : Option (Unit × List TEv × Unit) :=
 some ((), d, ())
def VF.slices_symMergeCmpFunc_impl_Event.step.l7 (J : List TEv → Option (Unit × List TEv × Unit)) (ih : List TEv × Int × Int →
 Option (Unit × List TEv × Unit)) (d : List TEv × Int × Int) : Option (Unit × List TEv × Unit) :=
 sel (decide (d.2.1 < d.2.2))
 (grd (inb d.1 (IntKind.wrap IntKind.i64 (d.2.2 - 1)))
 (grd (inb d.1 d.2.2)
 (grd (inb d.1 d.2.2)
 (grd
 (inb
 (wrL d.1 d.2.2
 ((rdL d.1 (IntKind.wrap IntKind.i64 (d.2.2 - 1)) (0, 0, 0, [], 0, 0, 0, ())).1,
 (rdL d.1 (IntKind.wrap IntKind.i64 (d.2.2 - 1)) (0, 0, 0, [], 0, 0, 0, ())).2.1,
 (rdL d.1 (IntKind.wrap IntKind.i64 (d.2.2 - 1)) (0, 0, 0, [], 0, 0, 0, ())).2.2.1,
 (rdL d.1 (IntKind.wrap IntKind.i64 (d.2.2 - 1)) (0, 0, 0, [], 0, 0, 0, ())).2.2.2.1,
 (rdL d.1 (IntKind.wrap IntKind.i64 (d.2.2 - 1)) (0, 0, 0, [], 0, 0, 0, ())).2.2.2.2.1,
 (rdL d.1 (IntKind.wrap IntKind.i64 (d.2.2 - 1)) (0, 0, 0, [], 0, 0, 0, ())).2.2.2.2.2.1,
 (rdL d.1 (IntKind.wrap IntKind.i64 (d.2.2 - 1)) (0, 0, 0, [], 0, 0, 0, ())).2.2.2.2.2.2.1, ()))
 (IntKind.wrap IntKind.i64 (d.2.2 - 1)))
 (ih
 (wrL
 (wrL d.1 d.2.2
 ((rdL d.1 (IntKind.wrap IntKind.i64 (d.2.2 - 1)) (0, 0, 0, [], 0, 0, 0, ())).1,
 (rdL d.1 (IntKind.wrap IntKind.i64 (d.2.2 - 1)) (0, 0, 0, [], 0, 0, 0, ())).2.1,
 (rdL d.1 (IntKind.wrap IntKind.i64 (d.2.2 - 1)) (0, 0, 0, [], 0, 0, 0, ())).2.2.1,
 (rdL d.1 (IntKind.wrap IntKind.i64 (d.2.2 - 1)) (0, 0, 0, [], 0, 0, 0, ())).2.2.2.1,
 (rdL d.1 (IntKind.wrap IntKind.i64 (d.2.2 - 1)) (0, 0, 0, [], 0, 0, 0, ())).2.2.2.2.1,
 (rdL d.1 (IntKind.wrap IntKind.i64 (d.2.2 - 1)) (0, 0, 0, [], 0, 0, 0, ())).2.2.2.2.2.1,
 (rdL d.1 (IntKind.wrap IntKind.i64 (d.2.2 - 1)) (0, 0, 0, [], 0, 0, 0, ())).2.2.2.2.2.2.1,
 ()))
 (IntKind.wrap IntKind.i64 (d.2.2 - 1))
 ((rdL d.1 d.2.2 (0, 0, 0, [], 0, 0, 0, ())).1, (rdL d.1 d.2.2 (0, 0, 0, [], 0, 0, 0, ())).2.1,
 (rdL d.1 d.2.2 (0, 0, 0, [], 0, 0, 0, ())).2.2.1,
 (rdL d.1 d.2.2 (0, 0, 0, [], 0, 0, 0, ())).2.2.2.1,
 (rdL d.1 d.2.2 (0, 0, 0, [], 0, 0, 0, ())).2.2.2.2.1,
 (rdL d.1 d.2.2 (0, 0, 0, [], 0, 0, 0, ())).2.2.2.2.2.1,
 (rdL d.1 d.2.2 (0, 0, 0, [], 0, 0, 0, ())).2.2.2.2.2.2.1, ()),
 d.2.1, IntKind.wrap IntKind.i64 (d.2.2 - 1)))))))
 (J d.1)
def VF.slices_symMergeCmpFunc_impl_Event.step.j8 (k : Nat) (a2 : Int) (d : List TEv × Int) : Option (Unit × List TEv × Unit) :=
 join VF.slices_symMergeCmpFunc_impl_Event.step.j6
 fun
 (J :
 List TEv →
 Option (Unit × List TEv × Unit)) =>
 iter (VF.slices_symMergeCmpFunc_impl_Event.step.l7 J) k (d.1, d.2, a2)
def VF.slices_symMergeCmpFunc_impl_Event.step.l9 (k : Nat) (a2 : Int) (J : List TEv × Int →
 Option (Unit × List TEv × Unit)) (ih : List TEv × Int × Int →
 Option (Unit × List TEv × Unit)) (d : List TEv × Int × Int) : Option (Unit × List TEv × Unit) :=
 sel (decide (d.2.1 < d.2.2))
 (grd (inb d.1 a2)
 (grd (inb d.1 (IntKind.wrap IntKind.i64 (shrI IntKind.u64 (IntKind.wrap IntKind.u64 (IntKind.wrap IntKind.i64 (d.2.1 + d.2.2))) 1)))
 (bnd
 (VF.impl_compareEvents k
 ((rdL d.1 a2 (0, 0, 0, [], 0, 0, 0, ())).1, (rdL d.1 a2 (0, 0, 0, [], 0, 0, 0, ())).2.1,
 (rdL d.1 a2 (0, 0, 0, [], 0, 0, 0, ())).2.2.1, (rdL d.1 a2 (0, 0, 0, [], 0, 0, 0, ())).2.2.2.1,
 (rdL d.1 a2 (0, 0, 0, [], 0, 0, 0, ())).2.2.2.2.1,
 (rdL d.1 a2 (0, 0, 0, [], 0, 0, 0, ())).2.2.2.2.2.1,
 (rdL d.1 a2 (0, 0, 0, [], 0, 0, 0, ())).2.2.2.2.2.2.1, ())
 ((rdL d.1 (IntKind.wrap IntKind.i64 (shrI IntKind.u64 (IntKind.wrap IntKind.u64 (IntKind.wrap IntKind.i64 (d.2.1 + d.2.2))) 1))
 (0, 0, 0, [], 0, 0, 0, ())).1,
 (rdL d.1 (IntKind.wrap IntKind.i64 (shrI IntKind.u64 (IntKind.wrap IntKind.u64 (IntKind.wrap IntKind.i64 (d.2.1 + d.2.2))) 1))
 (0, 0, 0, [], 0, 0, 0, ())).2.1,
 (rdL d.1 (IntKind.wrap IntKind.i64 (shrI IntKind.u64 (IntKind.wrap IntKind.u64 (IntKind.wrap IntKind.i64 (d.2.1 + d.2.2))) 1))
 (0, 0, 0, [], 0, 0, 0, ())).2.2.1,
 (rdL d.1 (IntKind.wrap IntKind.i64 (shrI IntKind.u64 (IntKind.wrap IntKind.u64 (IntKind.wrap IntKind.i64 (d.2.1 + d.2.2))) 1))
 (0, 0, 0, [], 0, 0, 0, ())).2.2.2.1,
 (rdL d.1 (IntKind.wrap IntKind.i64 (shrI IntKind.u64 (IntKind.wrap IntKind.u64 (IntKind.wrap IntKind.i64 (d.2.1 + d.2.2))) 1))
 (0, 0, 0, [], 0, 0, 0, ())).2.2.2.2.1,
 (rdL d.1 (IntKind.wrap IntKind.i64 (shrI IntKind.u64 (IntKind.wrap IntKind.u64 (IntKind.wrap IntKind.i64 (d.2.1 + d.2.2))) 1))
 (0, 0, 0, [], 0, 0, 0, ())).2.2.2.2.2.1,
 (rdL d.1 (IntKind.wrap IntKind.i64 (shrI IntKind.u64 (IntKind.wrap IntKind.u64 (IntKind.wrap IntKind.i64 (d.2.1 + d.2.2))) 1))
 (0, 0, 0, [], 0, 0, 0, ())).2.2.2.2.2.2.1,
 ()))
 fun (y : (Int × Unit) × Unit) =>
 sel (!decide (y.1.1 < 0))
 (ih
 (d.1,
 IntKind.wrap IntKind.i64
 (IntKind.wrap IntKind.i64 (shrI IntKind.u64 (IntKind.wrap IntKind.u64 (IntKind.wrap IntKind.i64 (d.2.1 + d.2.2))) 1) + 1),
 d.2.2))
 (ih
 (d.1, d.2.1,
 IntKind.wrap IntKind.i64 (shrI IntKind.u64 (IntKind.wrap IntKind.u64 (IntKind.wrap IntKind.i64 (d.2.1 + d.2.2))) 1))))))
 (J (d.1, d.2.1))
def VF.slices_symMergeCmpFunc_impl_Event.step.j10 (self : Nat →
 List TEv →
 Int → Int → Int → Option (Unit × List TEv × Unit)) (k : Nat) (a1 : Int) (a2 : Int) (a3 : Int) (d : List TEv) : Option (Unit × List TEv × Unit) :=
 join (VF.slices_symMergeCmpFunc_impl_Event.step.j5 self k a1 a2 a3)
 fun
 (J :
 List TEv →
 Option (Unit × List TEv × Unit)) =>
 sel (decide (IntKind.wrap IntKind.i64 (a3 - a2) = 1))
 (join (VF.slices_symMergeCmpFunc_impl_Event.step.j8 k a2)
 fun
 (J :
 List TEv × Int →
 Option (Unit × List TEv × Unit)) =>
 iter (VF.slices_symMergeCmpFunc_impl_Event.step.l9 k a2 J) k (d, a1, a2))
 (J d)
def VF.slices_symMergeCmpFunc_impl_Event.step.j11 (d : List TEv) : Option (Unit × List TEv × Unit) :=
 some ((), d, ())
def VF.slices_symMergeCmpFunc_impl_Event.step.l12 (J : List TEv → Option (Unit × List TEv × Unit)) (ih : List TEv × Int × Int →
 Option (Unit × List TEv × Unit)) (d : List TEv × Int × Int) : Option (Unit × List TEv × Unit) :=
 sel (decide (d.2.2 < IntKind.wrap IntKind.i64 (d.2.1 - 1)))
 (grd (inb d.1 (IntKind.wrap IntKind.i64 (d.2.2 + 1)))
 (grd (inb d.1 d.2.2)
 (grd (inb d.1 d.2.2)
 (grd
 (inb
 (wrL d.1 d.2.2
 ((rdL d.1 (IntKind.wrap IntKind.i64 (d.2.2 + 1)) (0, 0, 0, [], 0, 0, 0, ())).1,
 (rdL d.1 (IntKind.wrap IntKind.i64 (d.2.2 + 1)) (0, 0, 0, [], 0, 0, 0, ())).2.1,
 (rdL d.1 (IntKind.wrap IntKind.i64 (d.2.2 + 1)) (0, 0, 0, [], 0, 0, 0, ())).2.2.1,
 (rdL d.1 (IntKind.wrap IntKind.i64 (d.2.2 + 1)) (0, 0, 0, [], 0, 0, 0, ())).2.2.2.1,
 (rdL d.1 (IntKind.wrap IntKind.i64 (d.2.2 + 1)) (0, 0, 0, [], 0, 0, 0, ())).2.2.2.2.1,
 (rdL d.1 (IntKind.wrap IntKind.i64 (d.2.2 + 1)) (0, 0, 0, [], 0, 0, 0, ())).2.2.2.2.2.1,
 (rdL d.1 (IntKind.wrap IntKind.i64 (d.2.2 + 1)) (0, 0, 0, [], 0, 0, 0, ())).2.2.2.2.2.2.1, ()))
 (IntKind.wrap IntKind.i64 (d.2.2 + 1)))
 (ih
 (wrL
 (wrL d.1 d.2.2
 ((rdL d.1 (IntKind.wrap IntKind.i64 (d.2.2 + 1)) (0, 0, 0, [], 0, 0, 0, ())).1,
 (rdL d.1 (IntKind.wrap IntKind.i64 (d.2.2 + 1)) (0, 0, 0, [], 0, 0, 0, ())).2.1,
 (rdL d.1 (IntKind.wrap IntKind.i64 (d.2.2 + 1)) (0, 0, 0, [], 0, 0, 0, ())).2.2.1,
 (rdL d.1 (IntKind.wrap IntKind.i64 (d.2.2 + 1)) (0, 0, 0, [], 0, 0, 0, ())).2.2.2.1,
 (rdL d.1 (IntKind.wrap IntKind.i64 (d.2.2 + 1)) (0, 0, 0, [], 0, 0, 0, ())).2.2.2.2.1,
 (rdL d.1 (IntKind.wrap IntKind.i64 (d.2.2 + 1)) (0, 0, 0, [], 0, 0, 0, ())).2.2.2.2.2.1,
 (rdL d.1 (IntKind.wrap IntKind.i64 (d.2.2 + 1)) (0, 0, 0, [], 0, 0, 0, ())).2.2.2.2.2.2.1,
 ()))
 (IntKind.wrap IntKind.i64 (d.2.2 + 1))
 ((rdL d.1 d.2.2 (0, 0, 0, [], 0, 0, 0, ())).1, (rdL d.1 d.2.2 (0, 0, 0, [], 0, 0, 0, ())).2.1,
 (rdL d.1 d.2.2 (0, 0, 0, [], 0, 0, 0, ())).2.2.1,
 (rdL d.1 d.2.2 (0, 0, 0, [], 0, 0, 0, ())).2.2.2.1,
 (rdL d.1 d.2.2 (0, 0, 0, [], 0, 0, 0, ())).2.2.2.2.1,
 (rdL d.1 d.2.2 (0, 0, 0, [], 0, 0, 0, ())).2.2.2.2.2.1,
 (rdL d.1 d.2.2 (0, 0, 0, [], 0, 0, 0, ())).2.2.2.2.2.2.1, ()),
 d.2.1, IntKind.wrap IntKind.i64 (d.2.2 + 1)))))))
 (J d.1)
def VF.slices_symMergeCmpFunc_impl_Event.step.j13 (k : Nat) (a1 : Int) (d : List TEv × Int) : Option (Unit × List TEv × Unit) :=
 join VF.slices_symMergeCmpFunc_impl_Event.step.j11
 fun
 (J :
 List TEv →
 Option (Unit × List TEv × Unit)) =>
 iter (VF.slices_symMergeCmpFunc_impl_Event.step.l12 J) k (d.1, d.2, a1)
def VF.slices_symMergeCmpFunc_impl_Event.step.l14 (k : Nat) (a1 : Int) (J : List TEv × Int →
 Option (Unit × List TEv × Unit)) (ih : List TEv × Int × Int →
 Option (Unit × List TEv × Unit)) (d : List TEv × Int × Int) : Option (Unit × List TEv × Unit) :=
 sel (decide (d.2.1 < d.2.2))
 (grd (inb d.1 (IntKind.wrap IntKind.i64 (shrI IntKind.u64 (IntKind.wrap IntKind.u64 (IntKind.wrap IntKind.i64 (d.2.1 + d.2.2))) 1)))
 (grd (inb d.1 a1)
 (bnd
 (VF.impl_compareEvents k
 ((rdL d.1 (IntKind.wrap IntKind.i64 (shrI IntKind.u64 (IntKind.wrap IntKind.u64 (IntKind.wrap IntKind.i64 (d.2.1 + d.2.2))) 1))
 (0, 0, 0, [], 0, 0, 0, ())).1,
 (rdL d.1 (IntKind.wrap IntKind.i64 (shrI IntKind.u64 (IntKind.wrap IntKind.u64 (IntKind.wrap IntKind.i64 (d.2.1 + d.2.2))) 1))
 (0, 0, 0, [], 0, 0, 0, ())).2.1,
 (rdL d.1 (IntKind.wrap IntKind.i64 (shrI IntKind.u64 (IntKind.wrap IntKind.u64 (IntKind.wrap IntKind.i64 (d.2.1 + d.2.2))) 1))
 (0, 0, 0, [], 0, 0, 0, ())).2.2.1,
 (rdL d.1 (IntKind.wrap IntKind.i64 (shrI IntKind.u64 (IntKind.wrap IntKind.u64 (IntKind.wrap IntKind.i64 (d.2.1 + d.2.2))) 1))
 (0, 0, 0, [], 0, 0, 0, ())).2.2.2.1,
 (rdL d.1 (IntKind.wrap IntKind.i64 (shrI IntKind.u64 (IntKind.wrap IntKind.u64 (IntKind.wrap IntKind.i64 (d.2.1 + d.2.2))) 1))
 (0, 0, 0, [], 0, 0, 0, ())).2.2.2.2.1,
 (rdL d.1 (IntKind.wrap IntKind.i64 (shrI IntKind.u64 (IntKind.wrap IntKind.u64 (IntKind.wrap IntKind.i64 (d.2.1 + d.2.2))) 1))
 (0, 0, 0, [], 0, 0, 0, ())).2.2.2.2.2.1,
 (rdL d.1 (IntKind.wrap IntKind.i64 (shrI IntKind.u64 (IntKind.wrap IntKind.u64 (IntKind.wrap IntKind.i64 (d.2.1 + d.2.2))) 1))
 (0, 0, 0, [], 0, 0, 0, ())).2.2.2.2.2.2.1,
 ())
 ((rdL d.1 a1 (0, 0, 0, [], 0, 0, 0, ())).1, (rdL d.1 a1 (0, 0, 0, [], 0, 0, 0, ())).2.1,
 (rdL d.1 a1 (0, 0, 0, [], 0, 0, 0, ())).2.2.1, (rdL d.1 a1 (0, 0, 0, [], 0, 0, 0, ())).2.2.2.1,
 (rdL d.1 a1 (0, 0, 0, [], 0, 0, 0, ())).2.2.2.2.1,
 (rdL d.1 a1 (0, 0, 0, [], 0, 0, 0, ())).2.2.2.2.2.1,
 (rdL d.1 a1 (0, 0, 0, [], 0, 0, 0, ())).2.2.2.2.2.2.1, ()))
 fun (y : (Int × Unit) × Unit) =>
 sel (decide (y.1.1 < 0))
 (ih
 (d.1,
 IntKind.wrap IntKind.i64
 (IntKind.wrap IntKind.i64 (shrI IntKind.u64 (IntKind.wrap IntKind.u64 (IntKind.wrap IntKind.i64 (d.2.1 + d.2.2))) 1) + 1),
 d.2.2))
 (ih
 (d.1, d.2.1,
 IntKind.wrap IntKind.i64 (shrI IntKind.u64 (IntKind.wrap IntKind.u64 (IntKind.wrap IntKind.i64 (d.2.1 + d.2.2))) 1))))))
 (J (d.1, d.2.1))
def VF.slices_symMergeCmpFunc_impl_Event.step (self : Nat →
 List TEv →
 Int → Int → Int → Option (Unit × List TEv × Unit)) (k : Nat) (a0 : List TEv) (a1 : Int) (a2 : Int) (a3 : Int) : Option (Unit × List TEv × Unit) :=
 join (VF.slices_symMergeCmpFunc_impl_Event.step.j10 self k a1 a2 a3)
 fun
 (J :
 List TEv →
 Option (Unit × List TEv × Unit)) =>
 sel (decide (IntKind.wrap IntKind.i64 (a2 - a1) = 1))
 (join (VF.slices_symMergeCmpFunc_impl_Event.step.j13 k a1)
 fun
 (J :
 List TEv × Int →
 Option (Unit × List TEv × Unit)) =>
 iter (VF.slices_symMergeCmpFunc_impl_Event.step.l14 k a1 J) k (a0, a2, a3))
 (J a0)
def VF.slices_symMergeCmpFunc_impl_Event.rec : Nat → Nat →
 List TEv →
 Int → Int → Int → Option (Unit × List TEv × Unit)
 | 0 => fun _ _ _ _ _ => none
 | n + 1 => fun k a0 a1 a2 a3 => VF.slices_symMergeCmpFunc_impl_Event.step (VF.slices_symMergeCmpFunc_impl_Event.rec n) k a0 a1 a2 a3
def VF.slices_symMergeCmpFunc_impl_Event (k : Nat) (a0 : List TEv) (a1 : Int) (a2 : Int) (a3 : Int) : Option (Unit × List TEv × Unit) := VF.slices_symMergeCmpFunc_impl_Event.rec k k a0 a1 a2 a3
def VF.slices_stableCmpFunc_impl_Event.j0 (k : Nat) (a1 : Int) (ih : List TEv × Int →
 Option (Unit × List TEv × Unit)) (d : List TEv × Int × Int) : Option (Unit × List TEv × Unit) :=
 sel (decide (IntKind.wrap IntKind.i64 (d.2.2 + d.2.1) < a1))
 (bnd (VF.slices_symMergeCmpFunc_impl_Event k d.1 d.2.2 (IntKind.wrap IntKind.i64 (d.2.2 + d.2.1)) a1)
 fun (y : Unit × List TEv × Unit) =>
 ih (y.2.1, IntKind.wrap IntKind.i64 (d.2.1 * 2)))
 (ih (d.1, IntKind.wrap IntKind.i64 (d.2.1 * 2)))
def VF.slices_stableCmpFunc_impl_Event.l1 (k : Nat) (a1 : Int) (J : List TEv × Int × Int →
 Option (Unit × List TEv × Unit)) (ih : List TEv × Int × Int × Int →
 Option (Unit × List TEv × Unit)) (d : List TEv × Int × Int × Int) : Option (Unit × List TEv × Unit) :=
 sel (decide (d.2.2.2 ≤ a1))
 (bnd (VF.slices_symMergeCmpFunc_impl_Event k d.1 d.2.2.1 (IntKind.wrap IntKind.i64 (d.2.2.1 + d.2.1)) d.2.2.2)
 fun (y : Unit × List TEv × Unit) =>
 ih (y.2.1, d.2.1, d.2.2.2, IntKind.wrap IntKind.i64 (d.2.2.2 + IntKind.wrap IntKind.i64 (2 * d.2.1))))
 (J (d.1, d.2.1, d.2.2.1))
def VF.slices_stableCmpFunc_impl_Event.l2 (k : Nat) (a1 : Int) (ih : List TEv × Int →
 Option (Unit × List TEv × Unit)) (d : List TEv × Int) : Option (Unit × List TEv × Unit) :=
 sel (decide (d.2 < a1))
 (join (VF.slices_stableCmpFunc_impl_Event.j0 k a1 ih)
 fun
 (J :
 List TEv × Int × Int →
 Option (Unit × List TEv × Unit)) =>
 iter (VF.slices_stableCmpFunc_impl_Event.l1 k a1 J) k (d.1, d.2, 0, IntKind.wrap IntKind.i64 (2 * d.2)))
 (some ((), d.1, ()))
def VF.slices_stableCmpFunc_impl_Event.j3 (k : Nat) (a1 : Int) (d : List TEv × Int × Int) : Option (Unit × List TEv × Unit) :=
 bnd (VF.slices_insertionSortCmpFunc_impl_Event k d.1 d.2.2 a1)
 fun (y : Unit × List TEv × Unit) =>
 iter (VF.slices_stableCmpFunc_impl_Event.l2 k a1) k (y.2.1, d.2.1)
def VF.slices_stableCmpFunc_impl_Event.l4 (k : Nat) (a1 : Int) (J : List TEv × Int × Int →
 Option (Unit × List TEv × Unit)) (ih : List TEv × Int × Int × Int →
 Option (Unit × List TEv × Unit)) (d : List TEv × Int × Int × Int) : Option (Unit × List TEv × Unit) :=
 sel (decide (d.2.2.2 ≤ a1))
 (bnd (VF.slices_insertionSortCmpFunc_impl_Event k d.1 d.2.2.1 d.2.2.2)
 fun (y : Unit × List TEv × Unit) =>
 ih (y.2.1, d.2.1, d.2.2.2, IntKind.wrap IntKind.i64 (d.2.2.2 + d.2.1)))
 (J (d.1, d.2.1, d.2.2.1))
def VF.slices_stableCmpFunc_impl_Event (k : Nat) (a0 : List TEv) (a1 : Int) : Option (Unit × List TEv × Unit) :=
 join (VF.slices_stableCmpFunc_impl_Event.j3 k a1)
 fun
 (J :
 List TEv × Int × Int →
 Option (Unit × List TEv × Unit)) =>
 iter (VF.slices_stableCmpFunc_impl_Event.l4 k a1 J) k (a0, 20, 0, 20)
def VF.slices_SortStableFunc_impl_Event_impl_Event (k : Nat) (a0 : List TEv) : Option (Unit × List TEv × Unit) :=
 bnd (VF.slices_stableCmpFunc_impl_Event k a0 (List.length a0 : Int))
 fun (y : Unit × List TEv × Unit) => some ((), y.2.1, ())
def VF.impl_SortEvents.j0 (d : List TEv) : Option ((List TEv × Unit) × Unit) :=
 some ((d, ()), ())
def VF.impl_SortEvents.l1 (J : List TEv →
 Option ((List TEv × Unit) × Unit)) (ih : List TEv ×
 List (Int × Bool) × List TEv × Int × Int →
 Option ((List TEv × Unit) × Unit)) (d : List TEv ×
 List (Int × Bool) × List TEv × Int × Int) : Option ((List TEv × Unit) × Unit) :=
 sel (decide (d.2.2.2.2 < d.2.2.2.1))
 (grd (inb d.2.2.1 d.2.2.2.2)
 (sel (!mfd d.2.1 (rdL d.2.2.1 d.2.2.2.2 (0, 0, 0, [], 0, 0, 0, ())).1 false)
 (grd (fits (List.length d.1 + 1) 64)
 (ih
 (d.1 ++
 [((rdL d.2.2.1 d.2.2.2.2 (0, 0, 0, [], 0, 0, 0, ())).1,
 (rdL d.2.2.1 d.2.2.2.2 (0, 0, 0, [], 0, 0, 0, ())).2.1,
 (rdL d.2.2.1 d.2.2.2.2 (0, 0, 0, [], 0, 0, 0, ())).2.2.1,
 (rdL d.2.2.1 d.2.2.2.2 (0, 0, 0, [], 0, 0, 0, ())).2.2.2.1,
 (rdL d.2.2.1 d.2.2.2.2 (0, 0, 0, [], 0, 0, 0, ())).2.2.2.2.1,
 (rdL d.2.2.1 d.2.2.2.2 (0, 0, 0, [], 0, 0, 0, ())).2.2.2.2.2.1,
 (rdL d.2.2.1 d.2.2.2.2 (0, 0, 0, [], 0, 0, 0, ())).2.2.2.2.2.2.1, ())],
 mput d.2.1 (rdL d.2.2.1 d.2.2.2.2 (0, 0, 0, [], 0, 0, 0, ())).1 true, d.2.2.1, d.2.2.2.1,
 IntKind.wrap IntKind.i64 (d.2.2.2.2 + 1))))
 (ih (d.1, d.2.1, d.2.2.1, d.2.2.2.1, IntKind.wrap IntKind.i64 (d.2.2.2.2 + 1)))))
 (J d.1)
def VF.impl_SortEvents.j2 (k : Nat) (d : List TEv × List TEv) : Option ((List TEv × Unit) × Unit) :=
 bnd (VF.slices_SortStableFunc_impl_Event_impl_Event k d.2)
 fun (y : Unit × List TEv × Unit) =>
 join VF.impl_SortEvents.j0
 fun
 (J :
 List TEv →
 Option ((List TEv × Unit) × Unit)) =>
 iter (VF.impl_SortEvents.l1 J) k (d.1, [], y.2.1, (List.length y.2.1 : Int), 0)
def VF.impl_SortEvents.l3 (k : Nat) (J : List TEv × List TEv →
 Option ((List TEv × Unit) × Unit)) (ih : List TEv ×
 List TEv × List TEv × Int × Int →
 Option ((List TEv × Unit) × Unit)) (d : List TEv ×
 List TEv × List TEv × Int × Int) : Option ((List TEv × Unit) × Unit) :=
 sel (decide (d.2.2.2.2 < d.2.2.2.1))
 (grd (inb d.2.2.1 d.2.2.2.2)
 (bnd
 (VF.impl_IsEvent k
 ((rdL d.2.2.1 d.2.2.2.2 (0, 0, 0, [], 0, 0, 0, ())).1,
 (rdL d.2.2.1 d.2.2.2.2 (0, 0, 0, [], 0, 0, 0, ())).2.1,
 (rdL d.2.2.1 d.2.2.2.2 (0, 0, 0, [], 0, 0, 0, ())).2.2.1,
 (rdL d.2.2.1 d.2.2.2.2 (0, 0, 0, [], 0, 0, 0, ())).2.2.2.1,
 (rdL d.2.2.1 d.2.2.2.2 (0, 0, 0, [], 0, 0, 0, ())).2.2.2.2.1,
 (rdL d.2.2.1 d.2.2.2.2 (0, 0, 0, [], 0, 0, 0, ())).2.2.2.2.2.1,
 (rdL d.2.2.1 d.2.2.2.2 (0, 0, 0, [], 0, 0, 0, ())).2.2.2.2.2.2.1, ()))
 fun (y : (Bool × Unit) × Unit) =>
 sel y.1.1
 (grd (fits (List.length d.2.1 + 1) 64)
 (ih
 (d.1,
 d.2.1 ++
 [((rdL d.2.2.1 d.2.2.2.2 (0, 0, 0, [], 0, 0, 0, ())).1,
 (rdL d.2.2.1 d.2.2.2.2 (0, 0, 0, [], 0, 0, 0, ())).2.1,
 (rdL d.2.2.1 d.2.2.2.2 (0, 0, 0, [], 0, 0, 0, ())).2.2.1,
 (rdL d.2.2.1 d.2.2.2.2 (0, 0, 0, [], 0, 0, 0, ())).2.2.2.1,
 (rdL d.2.2.1 d.2.2.2.2 (0, 0, 0, [], 0, 0, 0, ())).2.2.2.2.1,
 (rdL d.2.2.1 d.2.2.2.2 (0, 0, 0, [], 0, 0, 0, ())).2.2.2.2.2.1,
 (rdL d.2.2.1 d.2.2.2.2 (0, 0, 0, [], 0, 0, 0, ())).2.2.2.2.2.2.1, ())],
 d.2.2.1, d.2.2.2.1, IntKind.wrap IntKind.i64 (d.2.2.2.2 + 1))))
 (ih (d.1, d.2.1, d.2.2.1, d.2.2.2.1, IntKind.wrap IntKind.i64 (d.2.2.2.2 + 1)))))
 (J (d.1, d.2.1))
def VF.impl_SortEvents (k : Nat) (a0 : List TEv) : Option ((List TEv × Unit) × Unit) :=
 sel (decide (100 < (List.length a0 : Int))) (some (([], ()), ()))
 (join (VF.impl_SortEvents.j2 k)
 fun
 (J :
 List TEv × List TEv →
 Option ((List TEv × Unit) × Unit)) =>
 iter (VF.impl_SortEvents.l3 k J) k ([], [], a0, (List.length a0 : Int), 0))
def VF.impl_AreLayers.j0 (a0 : List TLay) (d : Unit) : Option ((Bool × Unit) × Unit) :=
 some ((decide ((List.length a0 : Int) ≤ 24), ()), ())
def VF.impl_AreLayers.j1 (ih : List TLay × Int × Int → Option ((Bool × Unit) × Unit)) (d : List TLay × Int × Int) : Option ((Bool × Unit) × Unit) :=
 ih (d.1, d.2.1, IntKind.wrap IntKind.i64 (d.2.2 + 1))
def VF.impl_AreLayers.l2 (k : Nat) (a0 : List TLay) (J : Unit → Option ((Bool × Unit) × Unit)) (ih : List TLay × Int × Int → Option ((Bool × Unit) × Unit)) (d : List TLay × Int × Int) : Option ((Bool × Unit) × Unit) :=
 sel (decide (d.2.2 < d.2.1))
 (join (VF.impl_AreLayers.j1 ih) fun (J : List TLay × Int × Int → Option ((Bool × Unit) × Unit)) =>
 grd (inb d.1 d.2.2)
 (bnd (VF.impl_in k (rdL d.1 d.2.2 (0, 0, 0, ())).1 1 100000) fun (y : (Bool × Unit) × Unit) =>
 sel (!y.1.1) (some ((false, ()), ()))
 (bnd (VF.impl_in k (rdL d.1 d.2.2 (0, 0, 0, ())).2.1 0 1000000000) fun (y : (Bool × Unit) × Unit) =>
 sel (!y.1.1) (some ((false, ()), ()))
 (bnd (VF.impl_in k (rdL d.1 d.2.2 (0, 0, 0, ())).2.2.1 0 (rdL d.1 d.2.2 (0, 0, 0, ())).1)
 fun (y : (Bool × Unit) × Unit) =>
 sel (!y.1.1) (some ((false, ()), ()))
 (sel (decide (0 < d.2.2))
 (sel (decide (0 < (rdL d.1 d.2.2 (0, 0, 0, ())).2.2.1))
 (grd (inb a0 (IntKind.wrap IntKind.i64 (d.2.2 - 1)))
 (grd (inb a0 (IntKind.wrap IntKind.i64 (d.2.2 - 1)))
 (sel
 (decide
 ((rdL a0 (IntKind.wrap IntKind.i64 (d.2.2 - 1)) (0, 0, 0, ())).2.2.1 <
 (rdL a0 (IntKind.wrap IntKind.i64 (d.2.2 - 1)) (0, 0, 0, ())).1))
 (some ((false, ()), ())) (J (d.1, d.2.1, d.2.2)))))
 (J (d.1, d.2.1, d.2.2)))
 (J (d.1, d.2.1, d.2.2)))))))
 (J ())
def VF.impl_AreLayers (k : Nat) (a0 : List TLay) : Option ((Bool × Unit) × Unit) :=
 join (VF.impl_AreLayers.j0 a0) fun (J : Unit → Option ((Bool × Unit) × Unit)) => iter (VF.impl_AreLayers.l2 k a0 J) k (a0, (List.length a0 : Int), 0)
def VF.impl_AreBooks.j0 (k : Nat) (d : List TShelf × Int × List TDoc) : Option ((Bool × Unit) × Unit) :=
 sel (decide ((List.length d.1 : Int) ≤ 12))
 (bnd (VF.impl_in k d.2.1 0 1000000000) fun (y : (Bool × Unit) × Unit) =>
 sel y.1.1 (bnd (VF.impl_AreDocuments k d.2.2) fun (y : (Bool × Unit) × Unit) => some ((y.1.1, ()), ()))
 (some ((false, ()), ())))
 (some ((false, ()), ()))
def VF.impl_AreBooks.j1 (ih : (List TShelf × Int × List TDoc) ×
 List TShelf × Int × Int →
 Option ((Bool × Unit) × Unit)) (d : (List TShelf × Int × List TDoc) ×
 List TShelf × Int × Int) : Option ((Bool × Unit) × Unit) :=
 ih ((d.1.1, d.1.2.1, d.1.2.2), d.2.1, d.2.2.1, IntKind.wrap IntKind.i64 (d.2.2.2 + 1))
def VF.impl_AreBooks.l2 (k : Nat) (J : (List TShelf × Int × List TDoc) ×
 List TShelf × Int × Int →
 Option ((Bool × Unit) × Unit)) (ih : (List TShelf × Int × List TDoc) ×
 List TShelf × Int × Int × List Int × Int × Int →
 Option ((Bool × Unit) × Unit)) (d : (List TShelf × Int × List TDoc) ×
 List TShelf × Int × Int × List Int × Int × Int) : Option ((Bool × Unit) × Unit) :=
 sel (decide (d.2.2.2.2.2.2 < d.2.2.2.2.2.1))
 (grd (inb d.2.2.2.2.1 d.2.2.2.2.2.2)
 (bnd (VF.impl_in k (rdL d.2.2.2.2.1 d.2.2.2.2.2.2 0) 1 9999) fun (y : (Bool × Unit) × Unit) =>
 sel (!y.1.1) (some ((false, ()), ()))
 (ih
 ((d.1.1, d.1.2.1, d.1.2.2), d.2.1, d.2.2.1, d.2.2.2.1, d.2.2.2.2.1, d.2.2.2.2.2.1,
 IntKind.wrap IntKind.i64 (d.2.2.2.2.2.2 + 1)))))
 (J ((d.1.1, d.1.2.1, d.1.2.2), d.2.1, d.2.2.1, d.2.2.2.1))
def VF.impl_AreBooks.j3 (k : Nat) (J : (List TShelf × Int × List TDoc) ×
 List TShelf × Int × Int →
 Option ((Bool × Unit) × Unit)) (d : (List TShelf × Int × List TDoc) ×
 (List UInt8 × List Int × List TLay) × List TShelf × Int × Int) : Option ((Bool × Unit) × Unit) :=
 iter (VF.impl_AreBooks.l2 k J) k
 ((d.1.1, d.1.2.1, d.1.2.2), d.2.2.1, d.2.2.2.1, d.2.2.2.2, d.2.1.2.1,
 (List.length d.2.1.2.1 : Int), 0)
def VF.impl_AreBooks.l4 (k : Nat) (J : List TShelf × Int × List TDoc →
 Option ((Bool × Unit) × Unit)) (ih : (List TShelf × Int × List TDoc) ×
 List TShelf × Int × Int →
 Option ((Bool × Unit) × Unit)) (d : (List TShelf × Int × List TDoc) ×
 List TShelf × Int × Int) : Option ((Bool × Unit) × Unit) :=
 sel (decide (d.2.2.2 < d.2.2.1))
 (join (VF.impl_AreBooks.j1 ih)
 fun
 (J :
 (List TShelf × Int × List TDoc) ×
 List TShelf × Int × Int →
 Option ((Bool × Unit) × Unit)) =>
 grd (inb d.2.1 d.2.2.2)
 (join (VF.impl_AreBooks.j3 k J)
 fun
 (J :
 (List TShelf ×
 Int × List TDoc) ×
 (List UInt8 × List Int × List TLay) ×
 List TShelf × Int × Int →
 Option ((Bool × Unit) × Unit)) =>
 bnd (VF.impl_IsCode k (rdL d.2.1 d.2.2.2 ([], [], [], ())).1) fun (y : (Bool × Unit) × Unit) =>
 sel (!y.1.1) (some ((false, ()), ()))
 (sel (decide (0 < d.2.2.2))
 (grd (inb d.1.1 (IntKind.wrap IntKind.i64 (d.2.2.2 - 1)))
 (sel
 (!ltS (rdL d.1.1 (IntKind.wrap IntKind.i64 (d.2.2.2 - 1)) ([], [], [], ())).1
 (rdL d.2.1 d.2.2.2 ([], [], [], ())).1)
 (some ((false, ()), ()))
 (bnd (VF.impl_AreLayers k (rdL d.2.1 d.2.2.2 ([], [], [], ())).2.2.1) fun (y : (Bool × Unit) × Unit) =>
 sel (!y.1.1) (some ((false, ()), ()))
 (sel
 (!decide
 ((List.length (rdL d.2.1 d.2.2.2 ([], [], [], ())).2.1 : Int) =
 (List.length (rdL d.2.1 d.2.2.2 ([], [], [], ())).2.2.1 : Int)))
 (some ((false, ()), ()))
 (J
 ((d.1.1, d.1.2.1, d.1.2.2),
 ((rdL d.2.1 d.2.2.2 ([], [], [], ())).1,
 (rdL d.2.1 d.2.2.2 ([], [], [], ())).2.1,
 (rdL d.2.1 d.2.2.2 ([], [], [], ())).2.2.1),
 d.2.1, d.2.2.1, d.2.2.2))))))
 (bnd (VF.impl_AreLayers k (rdL d.2.1 d.2.2.2 ([], [], [], ())).2.2.1) fun (y : (Bool × Unit) × Unit) =>
 sel (!y.1.1) (some ((false, ()), ()))
 (sel
 (!decide
 ((List.length (rdL d.2.1 d.2.2.2 ([], [], [], ())).2.1 : Int) =
 (List.length (rdL d.2.1 d.2.2.2 ([], [], [], ())).2.2.1 : Int)))
 (some ((false, ()), ()))
 (J
 ((d.1.1, d.1.2.1, d.1.2.2),
 ((rdL d.2.1 d.2.2.2 ([], [], [], ())).1, (rdL d.2.1 d.2.2.2 ([], [], [], ())).2.1,
 (rdL d.2.1 d.2.2.2 ([], [], [], ())).2.2.1),
 d.2.1, d.2.2.1, d.2.2.2)))))))
 (J (d.1.1, d.1.2.1, d.1.2.2))
def VF.impl_AreBooks (k : Nat) (a0 : List TShelf × Int × List TDoc × Unit) : Option ((Bool × Unit) × Unit) :=
 join (VF.impl_AreBooks.j0 k)
 fun
 (J :
 List TShelf × Int × List TDoc →
 Option ((Bool × Unit) × Unit)) =>
 iter (VF.impl_AreBooks.l4 k J) k ((a0.1, a0.2.1, a0.2.2.1), a0.1, (List.length a0.1 : Int), 0)
def VF.impl_copyDocuments.j0 (d : List TDoc) : Option ((List TDoc × Unit) × Unit) :=
 some ((d, ()), ())
def VF.impl_copyDocuments.l1 (J : List TDoc → Option ((List TDoc × Unit) × Unit)) (ih : List TDoc × List TDoc × Int × Int →
 Option ((List TDoc × Unit) × Unit)) (d : List TDoc × List TDoc × Int × Int) : Option ((List TDoc × Unit) × Unit) :=
 sel (decide (d.2.2.2 < d.2.2.1))
 (grd (inb d.2.1 d.2.2.2)
 (grd (fits (0 + List.length (rdL d.2.1 d.2.2.2 (0, 0, [], ())).2.2.1) 24)
 (grd (fits (List.length d.1 + 1) 40)
 (ih
 (d.1 ++
 [((rdL d.2.1 d.2.2.2 (0, 0, [], ())).1, (rdL d.2.1 d.2.2.2 (0, 0, [], ())).2.1,
 [] ++ (rdL d.2.1 d.2.2.2 (0, 0, [], ())).2.2.1, ())],
 d.2.1, d.2.2.1, IntKind.wrap IntKind.i64 (d.2.2.2 + 1))))))
 (J d.1)
def VF.impl_copyDocuments (k : Nat) (a0 : List TDoc) : Option ((List TDoc × Unit) × Unit) :=
 join VF.impl_copyDocuments.j0
 fun
 (J :
 List TDoc →
 Option ((List TDoc × Unit) × Unit)) =>
 iter (VF.impl_copyDocuments.l1 J) k ([], a0, (List.length a0 : Int), 0)
def VF.impl_copyLayers (k : Nat) (a0 : List TLay) : Option ((List TLay × Unit) × Unit) :=
 grd (fits (0 + List.length a0) 24) (some (([] ++ a0, ()), ()))
def VF.impl_copyBooks.j0 (d : (List TShelf × Int × List TDoc) ×
 List TShelf × Int × List TDoc) : Option
 ((TBooks ×
 Unit) ×
 Unit) :=
 some (((d.2.1, d.2.2.1, d.2.2.2, ()), ()), ())
def VF.impl_copyBooks.l1 (k : Nat) (J : (List TShelf × Int × List TDoc) ×
 List TShelf × Int × List TDoc →
 Option
 ((TBooks ×
 Unit) ×
 Unit)) (ih : (List TShelf × Int × List TDoc) ×
 (List TShelf × Int × List TDoc) ×
 List TShelf × Int × Int →
 Option
 ((TBooks ×
 Unit) ×
 Unit)) (d : (List TShelf × Int × List TDoc) ×
 (List TShelf × Int × List TDoc) ×
 List TShelf × Int × Int) : Option
 ((TBooks ×
 Unit) ×
 Unit) :=
 sel (decide (d.2.2.2.2 < d.2.2.2.1))
 (grd (inb d.2.2.1 d.2.2.2.2)
 (grd (fits (0 + List.length (rdL d.2.2.1 d.2.2.2.2 ([], [], [], ())).2.1) 8)
 (bnd (VF.impl_copyLayers k (rdL d.2.2.1 d.2.2.2.2 ([], [], [], ())).2.2.1)
 fun (y : (List TLay × Unit) × Unit) =>
 grd (fits (List.length d.2.1.1 + 1) 64)
 (ih
 ((d.1.1, d.1.2.1, d.1.2.2),
 (d.2.1.1 ++
 [((rdL d.2.2.1 d.2.2.2.2 ([], [], [], ())).1,
 [] ++ (rdL d.2.2.1 d.2.2.2.2 ([], [], [], ())).2.1, y.1.1, ())],
 d.2.1.2.1, d.2.1.2.2),
 d.2.2.1, d.2.2.2.1, IntKind.wrap IntKind.i64 (d.2.2.2.2 + 1))))))
 (J ((d.1.1, d.1.2.1, d.1.2.2), d.2.1.1, d.2.1.2.1, d.2.1.2.2))
def VF.impl_copyBooks (k : Nat) (a0 : List TShelf × Int × List TDoc × Unit) : Option
 ((TBooks ×
 Unit) ×
 Unit) :=
 bnd (VF.impl_copyDocuments k a0.2.2.1) fun (y : (List TDoc × Unit) × Unit) =>
 join VF.impl_copyBooks.j0
 fun
 (J :
 (List TShelf × Int × List TDoc) ×
 List TShelf × Int × List TDoc →
 Option
 ((TBooks ×
 Unit) ×
 Unit)) =>
 iter (VF.impl_copyBooks.l1 k J) k (([], 0, []), ([], a0.2.1, y.1.1), a0.1, (List.length a0.1 : Int), 0)
def VF.impl_shelfOf.j0 (d : Unit) : Option ((Int × Unit) × Unit) :=
 some ((-1, ()), ())
def VF.impl_shelfOf.l1 (a1 : List UInt8) (J : Unit → Option ((Int × Unit) × Unit)) (ih : List TShelf × Int × Int → Option ((Int × Unit) × Unit)) (d : List TShelf × Int × Int) : Option ((Int × Unit) × Unit) :=
 sel (decide (d.2.2 < d.2.1))
 (grd (inb d.1 d.2.2)
 (sel (decide ((rdL d.1 d.2.2 ([], [], [], ())).1 = a1)) (some ((d.2.2, ()), ()))
 (ih (d.1, d.2.1, IntKind.wrap IntKind.i64 (d.2.2 + 1)))))
 (J ())
def VF.impl_shelfOf (k : Nat) (a0 : List TShelf × Int × List TDoc × Unit) (a1 : List UInt8) : Option ((Int × Unit) × Unit) :=
 join VF.impl_shelfOf.j0 fun (J : Unit → Option ((Int × Unit) × Unit)) => iter (VF.impl_shelfOf.l1 a1 J) k (a0.1, (List.length a0.1 : Int), 0)
def VF.impl_ReceiveLayer (k : Nat) (a0 : List TLay) (a1 : Int) (a2 : Int) : Option ((List TLay × Bool × Unit) × Unit) :=
 bnd (VF.impl_copyLayers k a0) fun (y : (List TLay × Unit) × Unit) =>
 grd (fits (List.length y.1.1 + 1) 24)
 (bnd (VF.impl_AreLayers k (y.1.1 ++ [(a1, a2, 0, ())])) fun (y_1 : (Bool × Unit) × Unit) =>
 sel (!y_1.1.1) (some (([], false, ()), ())) (some ((y.1.1 ++ [(a1, a2, 0, ())], true, ()), ())))
def VF.impl_receive.j0 (k : Nat) (d : (List TShelf × Int × List TDoc) ×
 (Int × Int × Int × List UInt8 × Int × Int × Int) × Int) : Option
 ((Bool × Unit) ×
 TBooks ×
 Unit) :=
 grd (inb d.1.1 d.2.2)
 (bnd
 (VF.impl_ReceiveLayer k (rdL d.1.1 d.2.2 ([], [], [], ())).2.2.1 d.2.1.2.2.2.2.1
 d.2.1.2.2.2.2.2.1)
 fun (y : (List TLay × Bool × Unit) × Unit) =>
 sel (!y.1.2.1) (some ((false, ()), (d.1.1, d.1.2.1, d.1.2.2, ()), ()))
 (grd
 (fits
 (List.length
 (rdL
 (wrL d.1.1 d.2.2
 ((rdL d.1.1 d.2.2 ([], [], [], ())).1, (rdL d.1.1 d.2.2 ([], [], [], ())).2.1, y.1.1,
 (rdL d.1.1 d.2.2 ([], [], [], ())).2.2.2))
 d.2.2 ([], [], [], ())).2.1 +
 1)
 8)
 (grd (decide (d.2.2 = d.2.2))
 (some
 ((true, ()),
 (wrL
 (wrL d.1.1 d.2.2
 ((rdL d.1.1 d.2.2 ([], [], [], ())).1, (rdL d.1.1 d.2.2 ([], [], [], ())).2.1, y.1.1,
 (rdL d.1.1 d.2.2 ([], [], [], ())).2.2.2))
 d.2.2
 ((rdL
 (wrL d.1.1 d.2.2
 ((rdL d.1.1 d.2.2 ([], [], [], ())).1, (rdL d.1.1 d.2.2 ([], [], [], ())).2.1,
 y.1.1, (rdL d.1.1 d.2.2 ([], [], [], ())).2.2.2))
 d.2.2 ([], [], [], ())).1,
 (rdL
 (wrL d.1.1 d.2.2
 ((rdL d.1.1 d.2.2 ([], [], [], ())).1, (rdL d.1.1 d.2.2 ([], [], [], ())).2.1,
 y.1.1, (rdL d.1.1 d.2.2 ([], [], [], ())).2.2.2))
 d.2.2 ([], [], [], ())).2.1 ++
 [d.2.1.1],
 (rdL
 (wrL d.1.1 d.2.2
 ((rdL d.1.1 d.2.2 ([], [], [], ())).1, (rdL d.1.1 d.2.2 ([], [], [], ())).2.1,
 y.1.1, (rdL d.1.1 d.2.2 ([], [], [], ())).2.2.2))
 d.2.2 ([], [], [], ())).2.2),
 d.1.2.1, d.1.2.2, ()),
 ())))))
def VF.impl_receive.j1 (J : (List TShelf × Int × List TDoc) ×
 (Int × Int × Int × List UInt8 × Int × Int × Int) × Int →
 Option
 ((Bool × Unit) ×
 TBooks ×
 Unit)) (d : (List TShelf × Int × List TDoc) ×
 (Int × Int × Int × List UInt8 × Int × Int × Int) × Int) : Option
 ((Bool × Unit) ×
 TBooks ×
 Unit) :=
 grd (decide (0 ≤ 0) && decide (0 ≤ d.2.2) && decide (d.2.2 ≤ (List.length d.1.1 : Int)))
 (grd (decide (0 ≤ d.2.2) && decide (d.2.2 ≤ (List.length d.1.1 : Int)) && decide ((List.length d.1.1 : Int) ≤ (List.length d.1.1 : Int)))
 (grd (fits (1 + List.length (subL d.1.1 d.2.2 (List.length d.1.1 : Int))) 64)
 (grd
 (decide (d.2.2 ≤ d.2.2) &&
 (decide ((List.length d.1.1 : Int) ≤ (List.length d.1.1 : Int)) &&
 fits
 (List.length (subL d.1.1 0 d.2.2) +
 List.length ([(d.2.1.2.2.2.1, [], [], ())] ++ (subL d.1.1 d.2.2 (List.length d.1.1 : Int) ++ [])))
 64))
 (J
 ((subL d.1.1 0 d.2.2 ++
 ([(d.2.1.2.2.2.1, [], [], ())] ++ (subL d.1.1 d.2.2 (List.length d.1.1 : Int) ++ [])),
 d.1.2.1, d.1.2.2),
 (d.2.1.1, d.2.1.2.1, d.2.1.2.2.1, d.2.1.2.2.2.1, d.2.1.2.2.2.2.1,
 d.2.1.2.2.2.2.2.1, d.2.1.2.2.2.2.2.2),
 d.2.2)))))
def VF.impl_receive.l2 (J : (List TShelf × Int × List TDoc) ×
 (Int × Int × Int × List UInt8 × Int × Int × Int) × Int →
 Option
 ((Bool × Unit) ×
 TBooks ×
 Unit)) (ih : (List TShelf × Int × List TDoc) ×
 (Int × Int × Int × List UInt8 × Int × Int × Int) × Int →
 Option
 ((Bool × Unit) ×
 TBooks ×
 Unit)) (d : (List TShelf × Int × List TDoc) ×
 (Int × Int × Int × List UInt8 × Int × Int × Int) × Int) : Option
 ((Bool × Unit) ×
 TBooks ×
 Unit) :=
 sel (decide (d.2.2 < (List.length d.1.1 : Int)))
 (grd (inb d.1.1 d.2.2)
 (sel (ltS (rdL d.1.1 d.2.2 ([], [], [], ())).1 d.2.1.2.2.2.1)
 (ih
 ((d.1.1, d.1.2.1, d.1.2.2),
 (d.2.1.1, d.2.1.2.1, d.2.1.2.2.1, d.2.1.2.2.2.1, d.2.1.2.2.2.2.1,
 d.2.1.2.2.2.2.2.1, d.2.1.2.2.2.2.2.2),
 IntKind.wrap IntKind.i64 (d.2.2 + 1)))
 (J
 ((d.1.1, d.1.2.1, d.1.2.2),
 (d.2.1.1, d.2.1.2.1, d.2.1.2.2.1, d.2.1.2.2.2.1, d.2.1.2.2.2.2.1,
 d.2.1.2.2.2.2.2.1, d.2.1.2.2.2.2.2.2),
 d.2.2))))
 (J
 ((d.1.1, d.1.2.1, d.1.2.2),
 (d.2.1.1, d.2.1.2.1, d.2.1.2.2.1, d.2.1.2.2.2.1, d.2.1.2.2.2.2.1,
 d.2.1.2.2.2.2.2.1, d.2.1.2.2.2.2.2.2),
 d.2.2))
def VF.impl_receive (k : Nat) (a0 : List TShelf × Int × List TDoc × Unit) (a1 : Int × Int × Int × List UInt8 × Int × Int × Int × Unit) : Option
 ((Bool × Unit) ×
 TBooks ×
 Unit) :=
 bnd (VF.impl_shelfOf k (a0.1, a0.2.1, a0.2.2.1, ()) a1.2.2.2.1) fun (y : (Int × Unit) × Unit) =>
 join (VF.impl_receive.j0 k)
 fun
 (J :
 (List TShelf × Int × List TDoc) ×
 (Int × Int × Int × List UInt8 × Int × Int × Int) × Int →
 Option
 ((Bool × Unit) ×
 TBooks ×
 Unit)) =>
 sel (decide (y.1.1 < 0))
 (sel (decide (12 ≤ (List.length a0.1 : Int))) (some ((false, ()), (a0.1, a0.2.1, a0.2.2.1, ()), ()))
 (join (VF.impl_receive.j1 J)
 fun
 (J :
 (List TShelf ×
 Int × List TDoc) ×
 (Int × Int × Int × List UInt8 × Int × Int × Int) × Int →
 Option
 ((Bool × Unit) ×
 TBooks ×
 Unit)) =>
 iter (VF.impl_receive.l2 J) k
 ((a0.1, a0.2.1, a0.2.2.1),
 (a1.1, a1.2.1, a1.2.2.1, a1.2.2.2.1, a1.2.2.2.2.1, a1.2.2.2.2.2.1,
 a1.2.2.2.2.2.2.1),
 0)))
 (J
 ((a0.1, a0.2.1, a0.2.2.1),
 (a1.1, a1.2.1, a1.2.2.1, a1.2.2.2.1, a1.2.2.2.2.1, a1.2.2.2.2.2.1,
 a1.2.2.2.2.2.2.1),
 y.1.1))
def VF.impl_PostEntries (k : Nat) (a0 : List TDoc) (a1 : Int) (a2 : List TEnt) : Option ((List TDoc × Bool × Unit) × Unit) :=
 bnd (VF.impl_copyDocuments k a0) fun (y : (List TDoc × Unit) × Unit) =>
 grd (fits (0 + List.length a2) 24)
 (grd (fits (List.length y.1.1 + 1) 40)
 (bnd (VF.impl_AreDocuments k (y.1.1 ++ [(IntKind.wrap IntKind.i64 ((List.length a0 : Int) + 1), a1, [] ++ a2, ())]))
 fun (y_1 : (Bool × Unit) × Unit) =>
 sel (!y_1.1.1) (some (([], false, ()), ()))
 (some ((y.1.1 ++ [(IntKind.wrap IntKind.i64 ((List.length a0 : Int) + 1), a1, [] ++ a2, ())], true, ()), ()))))
def VF.impl_post.j0 (k : Nat) (a1 : Int) (d : (List TShelf × Int × List TDoc) ×
 List TEnt) : Option
 ((Bool × Unit) ×
 TBooks ×
 Unit) :=
 sel (decide ((List.length d.2 : Int) = 0)) (some ((true, ()), (d.1.1, d.1.2.1, d.1.2.2, ()), ()))
 (bnd (VF.impl_PostEntries k d.1.2.2 a1 d.2) fun (y : (List TDoc × Bool × Unit) × Unit) =>
 sel y.1.2.1 (some ((y.1.2.1, ()), (d.1.1, d.1.2.1, y.1.1, ()), ()))
 (some ((y.1.2.1, ()), (d.1.1, d.1.2.1, d.1.2.2, ()), ())))
def VF.impl_post.l1 (J : (List TShelf × Int × List TDoc) ×
 List TEnt →
 Option
 ((Bool × Unit) ×
 TBooks ×
 Unit)) (ih : (List TShelf × Int × List TDoc) ×
 List TEnt × List TEnt × Int × Int →
 Option
 ((Bool × Unit) ×
 TBooks ×
 Unit)) (d : (List TShelf × Int × List TDoc) ×
 List TEnt × List TEnt × Int × Int) : Option
 ((Bool × Unit) ×
 TBooks ×
 Unit) :=
 sel (decide (d.2.2.2.2 < d.2.2.2.1))
 (grd (inb d.2.2.1 d.2.2.2.2)
 (sel (!decide ((rdL d.2.2.1 d.2.2.2.2 ([], 0, ())).2.1 = 0))
 (grd (fits (List.length d.2.1 + 1) 24)
 (ih
 ((d.1.1, d.1.2.1, d.1.2.2),
 d.2.1 ++
 [((rdL d.2.2.1 d.2.2.2.2 ([], 0, ())).1, (rdL d.2.2.1 d.2.2.2.2 ([], 0, ())).2.1,
 ())],
 d.2.2.1, d.2.2.2.1, IntKind.wrap IntKind.i64 (d.2.2.2.2 + 1))))
 (ih
 ((d.1.1, d.1.2.1, d.1.2.2), d.2.1, d.2.2.1, d.2.2.2.1, IntKind.wrap IntKind.i64 (d.2.2.2.2 + 1)))))
 (J ((d.1.1, d.1.2.1, d.1.2.2), d.2.1))
def VF.impl_post (k : Nat) (a0 : List TShelf × Int × List TDoc × Unit) (a1 : Int) (a2 : List TEnt) : Option
 ((Bool × Unit) ×
 TBooks ×
 Unit) :=
 join (VF.impl_post.j0 k a1)
 fun
 (J :
 (List TShelf × Int × List TDoc) ×
 List TEnt →
 Option
 ((Bool × Unit) ×
 TBooks ×
 Unit)) =>
 iter (VF.impl_post.l1 J) k ((a0.1, a0.2.1, a0.2.2.1), [], a2, (List.length a2 : Int), 0)
def VF.impl_firstCost (k : Nat) (a0 : Int × Int × Int × Unit) (a1 : Int) : Option ((Int × Unit) × Unit) :=
 grd (!decide (a0.1 = 0)) (some ((IntKind.wrap IntKind.i64 (Int.tdiv (IntKind.wrap IntKind.i64 (a0.2.1 * a1)) a0.1), ()), ()))
def VF.impl_LeftOf.j0 (d : Int) : Option ((Int × Unit) × Unit) :=
 some ((d, ()), ())
def VF.impl_LeftOf.l1 (J : Int → Option ((Int × Unit) × Unit)) (ih : Int × List TLay × Int × Int → Option ((Int × Unit) × Unit)) (d : Int × List TLay × Int × Int) : Option ((Int × Unit) × Unit) :=
 sel (decide (d.2.2.2 < d.2.2.1))
 (grd (inb d.2.1 d.2.2.2)
 (ih
 (IntKind.wrap IntKind.i64
 (d.1 +
 IntKind.wrap IntKind.i64
 ((rdL d.2.1 d.2.2.2 (0, 0, 0, ())).1 - (rdL d.2.1 d.2.2.2 (0, 0, 0, ())).2.2.1)),
 d.2.1, d.2.2.1, IntKind.wrap IntKind.i64 (d.2.2.2 + 1))))
 (J d.1)
def VF.impl_LeftOf (k : Nat) (a0 : List TLay) : Option ((Int × Unit) × Unit) :=
 bnd (VF.impl_AreLayers k a0) fun (y : (Bool × Unit) × Unit) =>
 sel (!y.1.1) (some ((0, ()), ()))
 (join VF.impl_LeftOf.j0 fun (J : Int → Option ((Int × Unit) × Unit)) => iter (VF.impl_LeftOf.l1 J) k (0, a0, (List.length a0 : Int), 0))
def VF.impl_IssueLayers.j0 (d : List TLay × Int) : Option ((List TLay × Int × Bool × Unit) × Unit) :=
 some ((d.1, d.2, true, ()), ())
def VF.impl_IssueLayers.l1 (k : Nat) (J : List TLay × Int → Option ((List TLay × Int × Bool × Unit) × Unit)) (ih : Int × List TLay × Int × Int × Int → Option ((List TLay × Int × Bool × Unit) × Unit)) (d : Int × List TLay × Int × Int × Int) : Option ((List TLay × Int × Bool × Unit) × Unit) :=
 sel (decide (d.2.2.2.2 < d.2.2.2.1))
 (grd (inb d.2.1 d.2.2.2.2)
 (bnd
 (VF.impl_firstCost k
 ((rdL d.2.1 d.2.2.2.2 (0, 0, 0, ())).1, (rdL d.2.1 d.2.2.2.2 (0, 0, 0, ())).2.1,
 (rdL d.2.1 d.2.2.2.2 (0, 0, 0, ())).2.2.1, ())
 (IntKind.wrap IntKind.i64
 ((rdL d.2.1 d.2.2.2.2 (0, 0, 0, ())).2.2.1 +
 mnI d.1
 (IntKind.wrap IntKind.i64
 ((rdL d.2.1 d.2.2.2.2 (0, 0, 0, ())).1 -
 (rdL d.2.1 d.2.2.2.2 (0, 0, 0, ())).2.2.1)))))
 fun (y : (Int × Unit) × Unit) =>
 bnd
 (VF.impl_firstCost k
 ((rdL d.2.1 d.2.2.2.2 (0, 0, 0, ())).1, (rdL d.2.1 d.2.2.2.2 (0, 0, 0, ())).2.1,
 (rdL d.2.1 d.2.2.2.2 (0, 0, 0, ())).2.2.1, ())
 (rdL d.2.1 d.2.2.2.2 (0, 0, 0, ())).2.2.1)
 fun (y_1 : (Int × Unit) × Unit) =>
 ih
 (IntKind.wrap IntKind.i64
 (d.1 -
 mnI d.1
 (IntKind.wrap IntKind.i64
 ((rdL d.2.1 d.2.2.2.2 (0, 0, 0, ())).1 -
 (rdL d.2.1 d.2.2.2.2 (0, 0, 0, ())).2.2.1))),
 wrL d.2.1 d.2.2.2.2
 ((rdL d.2.1 d.2.2.2.2 (0, 0, 0, ())).1, (rdL d.2.1 d.2.2.2.2 (0, 0, 0, ())).2.1,
 IntKind.wrap IntKind.i64
 ((rdL d.2.1 d.2.2.2.2 (0, 0, 0, ())).2.2.1 +
 mnI d.1
 (IntKind.wrap IntKind.i64
 ((rdL d.2.1 d.2.2.2.2 (0, 0, 0, ())).1 -
 (rdL d.2.1 d.2.2.2.2 (0, 0, 0, ())).2.2.1))),
 (rdL d.2.1 d.2.2.2.2 (0, 0, 0, ())).2.2.2),
 IntKind.wrap IntKind.i64 (d.2.2.1 + IntKind.wrap IntKind.i64 (y.1.1 - y_1.1.1)), d.2.2.2.1,
 IntKind.wrap IntKind.i64 (d.2.2.2.2 + 1))))
 (J (d.2.1, d.2.2.1))
def VF.impl_IssueLayers.j2 (k : Nat) (a0 : List TLay) (d : Int) : Option ((List TLay × Int × Bool × Unit) × Unit) :=
 bnd (VF.impl_copyLayers k a0) fun (y : (List TLay × Unit) × Unit) =>
 join VF.impl_IssueLayers.j0
 fun (J : List TLay × Int → Option ((List TLay × Int × Bool × Unit) × Unit)) =>
 iter (VF.impl_IssueLayers.l1 k J) k (d, y.1.1, 0, (List.length y.1.1 : Int), 0)
def VF.impl_IssueLayers (k : Nat) (a0 : List TLay) (a1 : Int) : Option ((List TLay × Int × Bool × Unit) × Unit) :=
 join (VF.impl_IssueLayers.j2 k a0) fun (J : Int → Option ((List TLay × Int × Bool × Unit) × Unit)) =>
 bnd (VF.impl_AreLayers k a0) fun (y : (Bool × Unit) × Unit) =>
 sel (!y.1.1) (some (([], 0, false, ()), ()))
 (bnd (VF.impl_LeftOf k a0) fun (y : (Int × Unit) × Unit) =>
 bnd (VF.impl_in k a1 1 y.1.1) fun (y : (Bool × Unit) × Unit) => sel (!y.1.1) (some (([], 0, false, ()), ())) (J a1))
def VF.impl_issue (k : Nat) (a0 : List TShelf × Int × List TDoc × Unit) (a1 : Int × Int × Int × List UInt8 × Int × Int × Int × Unit) : Option
 ((Int × Bool × Unit) ×
 TBooks ×
 Unit) :=
 bnd (VF.impl_shelfOf k (a0.1, a0.2.1, a0.2.2.1, ()) a1.2.2.2.1) fun (y : (Int × Unit) × Unit) =>
 sel (decide (y.1.1 < 0)) (some ((0, false, ()), (a0.1, a0.2.1, a0.2.2.1, ()), ()))
 (grd (inb a0.1 y.1.1)
 (bnd (VF.impl_IssueLayers k (rdL a0.1 y.1.1 ([], [], [], ())).2.2.1 a1.2.2.2.2.1)
 fun (y_1 : (List TLay × Int × Bool × Unit) × Unit) =>
 sel (!y_1.1.2.2.1) (some ((0, false, ()), (a0.1, a0.2.1, a0.2.2.1, ()), ()))
 (grd (inb a0.1 y.1.1)
 (some
 ((y_1.1.2.1, true, ()),
 (wrL a0.1 y.1.1
 ((rdL a0.1 y.1.1 ([], [], [], ())).1, (rdL a0.1 y.1.1 ([], [], [], ())).2.1, y_1.1.1,
 (rdL a0.1 y.1.1 ([], [], [], ())).2.2.2),
 a0.2.1, a0.2.2.1, ()),
 ())))))
def VF.impl_AddLate.j0 (k : Nat) (a0 : List TLay) (a1 : Int) (a2 : Int) (d : Unit) : Option ((List TLay × Int × Bool × Unit) × Unit) :=
 bnd (VF.impl_copyLayers k a0) fun (y : (List TLay × Unit) × Unit) =>
 grd (inb y.1.1 a1)
 (bnd
 (VF.impl_firstCost k
 ((rdL y.1.1 a1 (0, 0, 0, ())).1, (rdL y.1.1 a1 (0, 0, 0, ())).2.1,
 (rdL y.1.1 a1 (0, 0, 0, ())).2.2.1, ())
 (rdL y.1.1 a1 (0, 0, 0, ())).2.2.1)
 fun (y_1 : (Int × Unit) × Unit) =>
 bnd
 (VF.impl_AreLayers k
 (wrL y.1.1 a1
 ((rdL y.1.1 a1 (0, 0, 0, ())).1, IntKind.wrap IntKind.i64 ((rdL y.1.1 a1 (0, 0, 0, ())).2.1 + a2),
 (rdL y.1.1 a1 (0, 0, 0, ())).2.2)))
 fun (y_2 : (Bool × Unit) × Unit) =>
 sel (!y_2.1.1) (some (([], 0, false, ()), ()))
 (bnd
 (VF.impl_firstCost k
 ((rdL
 (wrL y.1.1 a1
 ((rdL y.1.1 a1 (0, 0, 0, ())).1, IntKind.wrap IntKind.i64 ((rdL y.1.1 a1 (0, 0, 0, ())).2.1 + a2),
 (rdL y.1.1 a1 (0, 0, 0, ())).2.2))
 a1 (0, 0, 0, ())).1,
 (rdL
 (wrL y.1.1 a1
 ((rdL y.1.1 a1 (0, 0, 0, ())).1,
 IntKind.wrap IntKind.i64 ((rdL y.1.1 a1 (0, 0, 0, ())).2.1 + a2),
 (rdL y.1.1 a1 (0, 0, 0, ())).2.2))
 a1 (0, 0, 0, ())).2.1,
 (rdL
 (wrL y.1.1 a1
 ((rdL y.1.1 a1 (0, 0, 0, ())).1,
 IntKind.wrap IntKind.i64 ((rdL y.1.1 a1 (0, 0, 0, ())).2.1 + a2),
 (rdL y.1.1 a1 (0, 0, 0, ())).2.2))
 a1 (0, 0, 0, ())).2.2.1,
 ())
 (rdL
 (wrL y.1.1 a1
 ((rdL y.1.1 a1 (0, 0, 0, ())).1,
 IntKind.wrap IntKind.i64 ((rdL y.1.1 a1 (0, 0, 0, ())).2.1 + a2),
 (rdL y.1.1 a1 (0, 0, 0, ())).2.2))
 a1 (0, 0, 0, ())).2.2.1)
 fun (y_3 : (Int × Unit) × Unit) =>
 some
 ((wrL y.1.1 a1
 ((rdL y.1.1 a1 (0, 0, 0, ())).1, IntKind.wrap IntKind.i64 ((rdL y.1.1 a1 (0, 0, 0, ())).2.1 + a2),
 (rdL y.1.1 a1 (0, 0, 0, ())).2.2),
 IntKind.wrap IntKind.i64 (y_3.1.1 - y_1.1.1), true, ()),
 ())))
def VF.impl_AddLate (k : Nat) (a0 : List TLay) (a1 : Int) (a2 : Int) : Option ((List TLay × Int × Bool × Unit) × Unit) :=
 join (VF.impl_AddLate.j0 k a0 a1 a2) fun (J : Unit → Option ((List TLay × Int × Bool × Unit) × Unit)) =>
 bnd (VF.impl_AreLayers k a0) fun (y : (Bool × Unit) × Unit) =>
 sel (!y.1.1) (some (([], 0, false, ()), ()))
 (bnd (VF.impl_in k a1 0 (IntKind.wrap IntKind.i64 ((List.length a0 : Int) - 1))) fun (y : (Bool × Unit) × Unit) =>
 sel (!y.1.1) (some (([], 0, false, ()), ()))
 (bnd (VF.impl_in k a2 (-1000000000) 1000000000) fun (y : (Bool × Unit) × Unit) =>
 sel (!y.1.1) (some (([], 0, false, ()), ())) (J ())))
def VF.impl_late.j0 (k : Nat) (d : (List TShelf × Int × List TDoc) ×
 (Int × Int × Int × List UInt8 × Int × Int × Int) × Int × Int) : Option
 ((Int × Int × Unit) ×
 TBooks ×
 Unit) :=
 sel (decide (d.2.2.2 < 0)) (some ((0, 4, ()), (d.1.1, d.1.2.1, d.1.2.2, ()), ()))
 (bnd (VF.impl_AddLate k (rdL d.1.1 d.2.2.1 ([], [], [], ())).2.2.1 d.2.2.2 d.2.1.2.2.2.2.2.1)
 fun (y : (List TLay × Int × Bool × Unit) × Unit) =>
 sel (!y.1.2.2.1) (some ((0, 2, ()), (d.1.1, d.1.2.1, d.1.2.2, ()), ()))
 (some
 ((y.1.2.1, 0, ()),
 (wrL d.1.1 d.2.2.1
 ((rdL d.1.1 d.2.2.1 ([], [], [], ())).1, (rdL d.1.1 d.2.2.1 ([], [], [], ())).2.1, y.1.1,
 (rdL d.1.1 d.2.2.1 ([], [], [], ())).2.2.2),
 d.1.2.1, d.1.2.2, ()),
 ())))
def VF.impl_late.l1 (J : (List TShelf × Int × List TDoc) ×
 (Int × Int × Int × List UInt8 × Int × Int × Int) × Int × Int →
 Option
 ((Int × Int × Unit) ×
 TBooks ×
 Unit)) (ih : (List TShelf × Int × List TDoc) ×
 (Int × Int × Int × List UInt8 × Int × Int × Int) × Int × Int × Int × Int × Int →
 Option
 ((Int × Int × Unit) ×
 TBooks ×
 Unit)) (d : (List TShelf × Int × List TDoc) ×
 (Int × Int × Int × List UInt8 × Int × Int × Int) × Int × Int × Int × Int × Int) : Option
 ((Int × Int × Unit) ×
 TBooks ×
 Unit) :=
 sel (decide (d.2.2.2.2.2.2 < d.2.2.2.2.2.1))
 (grd (inb (rdL d.1.1 d.2.2.2.2.1 ([], [], [], ())).2.1 d.2.2.2.2.2.2)
 (sel
 (decide
 (rdL (rdL d.1.1 d.2.2.2.2.1 ([], [], [], ())).2.1 d.2.2.2.2.2.2 0 = d.2.1.2.2.2.2.2.2))
 (ih
 ((d.1.1, d.1.2.1, d.1.2.2),
 (d.2.1.1, d.2.1.2.1, d.2.1.2.2.1, d.2.1.2.2.2.1, d.2.1.2.2.2.2.1,
 d.2.1.2.2.2.2.2.1, d.2.1.2.2.2.2.2.2),
 d.2.2.1, d.2.2.2.2.2.2, d.2.2.2.2.1, d.2.2.2.2.2.1,
 IntKind.wrap IntKind.i64 (d.2.2.2.2.2.2 + 1)))
 (ih
 ((d.1.1, d.1.2.1, d.1.2.2),
 (d.2.1.1, d.2.1.2.1, d.2.1.2.2.1, d.2.1.2.2.2.1, d.2.1.2.2.2.2.1,
 d.2.1.2.2.2.2.2.1, d.2.1.2.2.2.2.2.2),
 d.2.2.1, d.2.2.2.1, d.2.2.2.2.1, d.2.2.2.2.2.1,
 IntKind.wrap IntKind.i64 (d.2.2.2.2.2.2 + 1)))))
 (J
 ((d.1.1, d.1.2.1, d.1.2.2),
 (d.2.1.1, d.2.1.2.1, d.2.1.2.2.1, d.2.1.2.2.2.1, d.2.1.2.2.2.2.1,
 d.2.1.2.2.2.2.2.1, d.2.1.2.2.2.2.2.2),
 d.2.2.1, d.2.2.2.1))
def VF.impl_late (k : Nat) (a0 : List TShelf × Int × List TDoc × Unit) (a1 : Int × Int × Int × List UInt8 × Int × Int × Int × Unit) : Option
 ((Int × Int × Unit) ×
 TBooks ×
 Unit) :=
 bnd (VF.impl_shelfOf k (a0.1, a0.2.1, a0.2.2.1, ()) a1.2.2.2.1) fun (y : (Int × Unit) × Unit) =>
 sel (decide (y.1.1 < 0)) (some ((0, 4, ()), (a0.1, a0.2.1, a0.2.2.1, ()), ()))
 (grd (inb a0.1 y.1.1)
 (join (VF.impl_late.j0 k)
 fun
 (J :
 (List TShelf ×
 Int × List TDoc) ×
 (Int × Int × Int × List UInt8 × Int × Int × Int) × Int × Int →
 Option
 ((Int × Int × Unit) ×
 TBooks ×
 Unit)) =>
 iter (VF.impl_late.l1 J) k
 ((a0.1, a0.2.1, a0.2.2.1),
 (a1.1, a1.2.1, a1.2.2.1, a1.2.2.2.1, a1.2.2.2.2.1, a1.2.2.2.2.2.1,
 a1.2.2.2.2.2.2.1),
 y.1.1, -1, y.1.1, (List.length (rdL a0.1 y.1.1 ([], [], [], ())).2.1 : Int), 0)))
def VF.impl_book.j0 (d : (List TShelf × Int × List TDoc) × Bool) : Option
 ((Int × Unit) ×
 TBooks ×
 Unit) :=
 sel (!d.2) (some ((3, ()), (d.1.1, d.1.2.1, d.1.2.2, ()), ()))
 (some ((0, ()), (d.1.1, d.1.2.1, d.1.2.2, ()), ()))
def VF.impl_book.j1 (k : Nat) (J : (List TShelf × Int × List TDoc) × Bool →
 Option
 ((Int × Unit) ×
 TBooks ×
 Unit)) (d : (List TShelf × Int × List TDoc) ×
 (Int × Int × Int × List UInt8 × Int × Int × Int) × Bool × Int × Bool) : Option
 ((Int × Unit) ×
 TBooks ×
 Unit) :=
 sel d.2.2.2.2
 (bnd
 (VF.impl_issue k (d.1.1, d.1.2.1, d.1.2.2, ())
 (d.2.1.1, d.2.1.2.1, d.2.1.2.2.1, d.2.1.2.2.2.1, d.2.1.2.2.2.2.1,
 d.2.1.2.2.2.2.2.1, d.2.1.2.2.2.2.2.2, ()))
 fun
 (y :
 (Int × Bool × Unit) ×
 TBooks ×
 Unit) =>
 sel (!y.1.2.1) (some ((2, ()), (y.2.1.1, y.2.1.2.1, y.2.1.2.2.1, ()), ()))
 (sel (decide (d.2.1.2.2.1 = 4))
 (bnd
 (VF.impl_post k (y.2.1.1, y.2.1.2.1, y.2.1.2.2.1, ()) d.2.1.2.1
 [([67, 65, 83, 72], d.2.1.2.2.2.2.2.1, ()),
 ([83, 65, 76, 69, 83], IntKind.wrap IntKind.i64 (0 - d.2.1.2.2.2.2.2.1), ()),
 ([67, 79, 83, 84], y.1.1, ()), ([83, 84, 79, 67, 75], IntKind.wrap IntKind.i64 (0 - y.1.1), ())])
 fun
 (y :
 (Bool × Unit) ×
 TBooks ×
 Unit) =>
 J ((y.2.1.1, y.2.1.2.1, y.2.1.2.2.1), y.1.1))
 (bnd
 (VF.impl_post k (y.2.1.1, IntKind.wrap IntKind.i64 (y.2.1.2.1 + y.1.1), y.2.1.2.2.1, ())
 d.2.1.2.1
 [([87, 79, 82, 75], y.1.1, ()), ([83, 84, 79, 67, 75], IntKind.wrap IntKind.i64 (0 - y.1.1), ())])
 fun
 (y :
 (Bool × Unit) ×
 TBooks ×
 Unit) =>
 sel y.1.1 (J ((y.2.1.1, y.2.1.2.1, y.2.1.2.2.1), decide (y.2.1.2.1 ≤ 1000000000)))
 (J ((y.2.1.1, y.2.1.2.1, y.2.1.2.2.1), false)))))
 (sel (decide (d.2.2.2.1 = 5))
 (bnd
 (VF.impl_late k (d.1.1, d.1.2.1, d.1.2.2, ())
 (d.2.1.1, d.2.1.2.1, d.2.1.2.2.1, d.2.1.2.2.2.1, d.2.1.2.2.2.2.1,
 d.2.1.2.2.2.2.2.1, d.2.1.2.2.2.2.2.2, ()))
 fun
 (y :
 (Int × Int × Unit) ×
 TBooks ×
 Unit) =>
 sel (!decide (y.1.2.1 = 0))
 (some ((y.1.2.1, ()), (y.2.1.1, y.2.1.2.1, y.2.1.2.2.1, ()), ()))
 (bnd
 (VF.impl_post k (y.2.1.1, y.2.1.2.1, y.2.1.2.2.1, ()) d.2.1.2.1
 [([83, 84, 79, 67, 75], IntKind.wrap IntKind.i64 (d.2.1.2.2.2.2.2.1 - y.1.1), ()),
 ([67, 79, 83, 84], y.1.1, ()),
 ([83, 85, 80, 80, 76, 89], IntKind.wrap IntKind.i64 (0 - d.2.1.2.2.2.2.2.1), ())])
 fun
 (y :
 (Bool × Unit) ×
 TBooks ×
 Unit) =>
 J ((y.2.1.1, y.2.1.2.1, y.2.1.2.2.1), y.1.1)))
 (J ((d.1.1, d.1.2.1, d.1.2.2), d.2.2.1)))
def VF.impl_book (k : Nat) (a0 : List TShelf × Int × List TDoc × Unit) (a1 : Int × Int × Int × List UInt8 × Int × Int × Int × Unit) : Option
 ((Int × Unit) ×
 TBooks ×
 Unit) :=
 join VF.impl_book.j0
 fun
 (J :
 (List TShelf × Int × List TDoc) ×
 Bool →
 Option
 ((Int × Unit) ×
 TBooks ×
 Unit)) =>
 sel (decide (a1.2.2.1 = 1))
 (bnd
 (VF.impl_receive k (a0.1, a0.2.1, a0.2.2.1, ())
 (a1.1, a1.2.1, a1.2.2.1, a1.2.2.2.1, a1.2.2.2.2.1, a1.2.2.2.2.2.1, a1.2.2.2.2.2.2.1,
 ()))
 fun
 (y :
 (Bool × Unit) ×
 TBooks ×
 Unit) =>
 sel y.1.1
 (bnd
 (VF.impl_post k (y.2.1.1, y.2.1.2.1, y.2.1.2.2.1, ()) a1.2.1
 [([83, 84, 79, 67, 75], a1.2.2.2.2.2.1, ()),
 ([83, 85, 80, 80, 76, 89], IntKind.wrap IntKind.i64 (0 - a1.2.2.2.2.2.1), ())])
 fun
 (y :
 (Bool × Unit) ×
 TBooks ×
 Unit) =>
 J ((y.2.1.1, y.2.1.2.1, y.2.1.2.2.1), y.1.1))
 (J ((y.2.1.1, y.2.1.2.1, y.2.1.2.2.1), false)))
 (sel (decide (a1.2.2.1 = 3))
 (sel (decide (a0.2.1 < a1.2.2.2.2.2.1)) (some ((2, ()), (a0.1, a0.2.1, a0.2.2.1, ()), ()))
 (bnd
 (VF.impl_receive k (a0.1, IntKind.wrap IntKind.i64 (a0.2.1 - a1.2.2.2.2.2.1), a0.2.2.1, ())
 (a1.1, a1.2.1, a1.2.2.1, a1.2.2.2.1, a1.2.2.2.2.1, a1.2.2.2.2.2.1,
 a1.2.2.2.2.2.2.1, ()))
 fun
 (y :
 (Bool × Unit) ×
 TBooks ×
 Unit) =>
 sel y.1.1
 (bnd
 (VF.impl_post k (y.2.1.1, y.2.1.2.1, y.2.1.2.2.1, ()) a1.2.1
 [([83, 84, 79, 67, 75], a1.2.2.2.2.2.1, ()),
 ([87, 79, 82, 75], IntKind.wrap IntKind.i64 (0 - a1.2.2.2.2.2.1), ())])
 fun
 (y :
 (Bool × Unit) ×
 TBooks ×
 Unit) =>
 J ((y.2.1.1, y.2.1.2.1, y.2.1.2.2.1), y.1.1))
 (J ((y.2.1.1, y.2.1.2.1, y.2.1.2.2.1), false))))
 (join (VF.impl_book.j1 k J)
 fun
 (J :
 (List TShelf ×
 Int × List TDoc) ×
 (Int × Int × Int × List UInt8 × Int × Int × Int) × Bool × Int × Bool →
 Option
 ((Int × Unit) ×
 TBooks ×
 Unit)) =>
 sel (decide (a1.2.2.1 = 2))
 (J
 ((a0.1, a0.2.1, a0.2.2.1),
 (a1.1, a1.2.1, a1.2.2.1, a1.2.2.2.1, a1.2.2.2.2.1, a1.2.2.2.2.2.1,
 a1.2.2.2.2.2.2.1),
 false, a1.2.2.1, decide (a1.2.2.1 = 2)))
 (J
 ((a0.1, a0.2.1, a0.2.2.1),
 (a1.1, a1.2.1, a1.2.2.1, a1.2.2.2.1, a1.2.2.2.2.1, a1.2.2.2.2.2.1,
 a1.2.2.2.2.2.2.1),
 false, a1.2.2.1, decide (a1.2.2.1 = 4)))))
def VF.impl_BookEvent.j0 (k : Nat) (d : (List TShelf × Int × List TDoc) ×
 (Int × Int × Int × List UInt8 × Int × Int × Int) ×
 (List TShelf × Int × List TDoc) ×
 List TShelf × Int × List TDoc) : Option
 ((TBooks ×
 Int × Unit) ×
 Unit) :=
 bnd
 (VF.impl_book k (d.2.2.2.1, d.2.2.2.2.1, d.2.2.2.2.2, ())
 (d.2.1.1, d.2.1.2.1, d.2.1.2.2.1, d.2.1.2.2.2.1, d.2.1.2.2.2.2.1,
 d.2.1.2.2.2.2.2.1, d.2.1.2.2.2.2.2.2, ()))
 fun
 (y :
 (Int × Unit) ×
 TBooks ×
 Unit) =>
 sel (!decide (y.1.1 = 0))
 (bnd (VF.impl_copyBooks k (d.1.1, d.1.2.1, d.1.2.2, ()))
 fun
 (y_1 :
 (TBooks ×
 Unit) ×
 Unit) =>
 some (((y_1.1.1.1, y_1.1.1.2.1, y_1.1.1.2.2.1, ()), y.1.1, ()), ()))
 (some (((y.2.1.1, y.2.1.2.1, y.2.1.2.2.1, ()), 0, ()), ()))
def VF.impl_BookEvent (k : Nat) (a0 : List TShelf × Int × List TDoc × Unit) (a1 : Int × Int × Int × List UInt8 × Int × Int × Int × Unit) : Option
 ((TBooks ×
 Int × Unit) ×
 Unit) :=
 bnd (VF.impl_copyBooks k (a0.1, a0.2.1, a0.2.2.1, ()))
 fun
 (y :
 (TBooks ×
 Unit) ×
 Unit) =>
 join (VF.impl_BookEvent.j0 k)
 fun
 (J :
 (List TShelf × Int × List TDoc) ×
 (Int × Int × Int × List UInt8 × Int × Int × Int) ×
 (List TShelf ×
 Int × List TDoc) ×
 List TShelf ×
 Int × List TDoc →
 Option
 ((TBooks ×
 Int × Unit) ×
 Unit)) =>
 bnd (VF.impl_AreBooks k (a0.1, a0.2.1, a0.2.2.1, ())) fun (y_1 : (Bool × Unit) × Unit) =>
 sel (!y_1.1.1) (some (((y.1.1.1, y.1.1.2.1, y.1.1.2.2.1, ()), 1, ()), ()))
 (bnd
 (VF.impl_IsEvent k
 (a1.1, a1.2.1, a1.2.2.1, a1.2.2.2.1, a1.2.2.2.2.1, a1.2.2.2.2.2.1,
 a1.2.2.2.2.2.2.1, ()))
 fun (y_2 : (Bool × Unit) × Unit) =>
 sel (!y_2.1.1) (some (((y.1.1.1, y.1.1.2.1, y.1.1.2.2.1, ()), 1, ()), ()))
 (J
 ((a0.1, a0.2.1, a0.2.2.1),
 (a1.1, a1.2.1, a1.2.2.1, a1.2.2.2.1, a1.2.2.2.2.1, a1.2.2.2.2.2.1,
 a1.2.2.2.2.2.2.1),
 ([], 0, []), y.1.1.1, y.1.1.2.1, y.1.1.2.2.1)))
def VF.impl_BooksOf.j0 (d : (List TShelf × Int × List TDoc) ×
 (List TShelf × Int × List TDoc) ×
 List Int) : Option
 ((TBooks ×
 List Int × Unit) ×
 Unit) :=
 some (((d.2.1.1, d.2.1.2.1, d.2.1.2.2, ()), d.2.2, ()), ())
def VF.impl_BooksOf.l1 (k : Nat) (J : (List TShelf × Int × List TDoc) ×
 (List TShelf × Int × List TDoc) ×
 List Int →
 Option
 ((TBooks ×
 List Int × Unit) ×
 Unit)) (ih : (List TShelf × Int × List TDoc) ×
 (List TShelf × Int × List TDoc) ×
 List Int × List TEv × Int × Int →
 Option
 ((TBooks ×
 List Int × Unit) ×
 Unit)) (d : (List TShelf × Int × List TDoc) ×
 (List TShelf × Int × List TDoc) ×
 List Int × List TEv × Int × Int) : Option
 ((TBooks ×
 List Int × Unit) ×
 Unit) :=
 sel (decide (d.2.2.2.2.2 < d.2.2.2.2.1))
 (grd (inb d.2.2.2.1 d.2.2.2.2.2)
 (bnd
 (VF.impl_BookEvent k (d.2.1.1, d.2.1.2.1, d.2.1.2.2, ())
 ((rdL d.2.2.2.1 d.2.2.2.2.2 (0, 0, 0, [], 0, 0, 0, ())).1,
 (rdL d.2.2.2.1 d.2.2.2.2.2 (0, 0, 0, [], 0, 0, 0, ())).2.1,
 (rdL d.2.2.2.1 d.2.2.2.2.2 (0, 0, 0, [], 0, 0, 0, ())).2.2.1,
 (rdL d.2.2.2.1 d.2.2.2.2.2 (0, 0, 0, [], 0, 0, 0, ())).2.2.2.1,
 (rdL d.2.2.2.1 d.2.2.2.2.2 (0, 0, 0, [], 0, 0, 0, ())).2.2.2.2.1,
 (rdL d.2.2.2.1 d.2.2.2.2.2 (0, 0, 0, [], 0, 0, 0, ())).2.2.2.2.2.1,
 (rdL d.2.2.2.1 d.2.2.2.2.2 (0, 0, 0, [], 0, 0, 0, ())).2.2.2.2.2.2.1, ()))
 fun
 (y :
 (TBooks ×
 Int × Unit) ×
 Unit) =>
 sel (!decide (y.1.2.1 = 0))
 (grd (fits (List.length d.2.2.1 + 1) 8)
 (ih
 ((d.1.1, d.1.2.1, d.1.2.2), (y.1.1.1, y.1.1.2.1, y.1.1.2.2.1),
 d.2.2.1 ++ [(rdL d.2.2.2.1 d.2.2.2.2.2 (0, 0, 0, [], 0, 0, 0, ())).1], d.2.2.2.1,
 d.2.2.2.2.1, IntKind.wrap IntKind.i64 (d.2.2.2.2.2 + 1))))
 (ih
 ((d.1.1, d.1.2.1, d.1.2.2), (y.1.1.1, y.1.1.2.1, y.1.1.2.2.1), d.2.2.1, d.2.2.2.1,
 d.2.2.2.2.1, IntKind.wrap IntKind.i64 (d.2.2.2.2.2 + 1)))))
 (J ((d.1.1, d.1.2.1, d.1.2.2), (d.2.1.1, d.2.1.2.1, d.2.1.2.2), d.2.2.1))
def VF.impl_BooksOf (k : Nat) (a0 : List TEv) : Option
 ((TBooks ×
 List Int × Unit) ×
 Unit) :=
 join VF.impl_BooksOf.j0
 fun
 (J :
 (List TShelf × Int × List TDoc) ×
 (List TShelf × Int × List TDoc) ×
 List Int →
 Option
 ((TBooks ×
 List Int × Unit) ×
 Unit)) =>
 bnd (VF.impl_SortEvents k a0) fun (y : (List TEv × Unit) × Unit) =>
 iter (VF.impl_BooksOf.l1 k J) k (([], 0, []), ([], 0, []), [], y.1.1, (List.length y.1.1 : Int), 0)
def VF.spec_IsEvent.j0 (k : Nat) (d : (Int × Int × Int × List UInt8 × Int × Int × Int) × Int × Bool) : Option ((Bool × Unit) × Unit) :=
 sel d.2.2
 (bnd (VF.spec_l1In k d.1.2.2.2.2.1 1 100000) fun (y : (Bool × Unit) × Unit) =>
 sel y.1.1
 (bnd (VF.spec_l1In k d.1.2.2.2.2.2.1 1 100000) fun (y : (Bool × Unit) × Unit) =>
 sel y.1.1 (some ((decide (d.1.2.2.2.2.2.2 = 0), ()), ())) (some ((false, ()), ())))
 (some ((false, ()), ())))
 (sel (decide (d.2.1 = 2))
 (bnd (VF.spec_l1In k d.1.2.2.2.2.1 1 100000) fun (y : (Bool × Unit) × Unit) =>
 sel y.1.1
 (sel (decide (d.1.2.2.2.2.2.1 = 0)) (some ((decide (d.1.2.2.2.2.2.2 = 0), ()), ()))
 (some ((false, ()), ())))
 (some ((false, ()), ())))
 (sel (decide (d.2.1 = 5))
 (sel (decide (d.1.2.2.2.2.1 = 0))
 (bnd (VF.spec_l1In k d.1.2.2.2.2.2.1 (-100000) 100000) fun (y : (Bool × Unit) × Unit) =>
 sel y.1.1
 (sel (!decide (d.1.2.2.2.2.2.1 = 0))
 (bnd (VF.spec_l1In k d.1.2.2.2.2.2.2 1 9999) fun (y : (Bool × Unit) × Unit) =>
 some ((y.1.1, ()), ()))
 (some ((false, ()), ())))
 (some ((false, ()), ())))
 (some ((false, ()), ())))
 (some ((false, ()), ()))))
def VF.spec_IsEvent.j1 (k : Nat) (d : Int × Int × Int × List UInt8 × Int × Int × Int) : Option ((Bool × Unit) × Unit) :=
 join (VF.spec_IsEvent.j0 k) fun (J : (Int × Int × Int × List UInt8 × Int × Int × Int) × Int × Bool → Option ((Bool × Unit) × Unit)) =>
 sel (decide (d.2.2.1 = 1))
 (J
 ((d.1, d.2.1, d.2.2.1, d.2.2.2.1, d.2.2.2.2.1, d.2.2.2.2.2.1, d.2.2.2.2.2.2),
 d.2.2.1, decide (d.2.2.1 = 1)))
 (sel (decide (d.2.2.1 = 3))
 (J
 ((d.1, d.2.1, d.2.2.1, d.2.2.2.1, d.2.2.2.2.1, d.2.2.2.2.2.1, d.2.2.2.2.2.2),
 d.2.2.1, decide (d.2.2.1 = 3)))
 (J
 ((d.1, d.2.1, d.2.2.1, d.2.2.2.1, d.2.2.2.2.1, d.2.2.2.2.2.1, d.2.2.2.2.2.2),
 d.2.2.1, decide (d.2.2.1 = 4))))
def VF.spec_IsEvent (k : Nat) (a0 : Int × Int × Int × List UInt8 × Int × Int × Int × Unit) : Option ((Bool × Unit) × Unit) :=
 join (VF.spec_IsEvent.j1 k) fun (J : Int × Int × Int × List UInt8 × Int × Int × Int → Option ((Bool × Unit) × Unit)) =>
 bnd (VF.spec_l1In k a0.1 1 9999) fun (y : (Bool × Unit) × Unit) =>
 sel (!y.1.1) (some ((false, ()), ()))
 (bnd (VF.spec_l1In k a0.2.1 0 999) fun (y : (Bool × Unit) × Unit) =>
 sel (!y.1.1) (some ((false, ()), ()))
 (bnd (VF.spec_IsCode k a0.2.2.2.1) fun (y : (Bool × Unit) × Unit) =>
 sel (!y.1.1) (some ((false, ()), ()))
 (J
 (a0.1, a0.2.1, a0.2.2.1, a0.2.2.2.1, a0.2.2.2.2.1, a0.2.2.2.2.2.1,
 a0.2.2.2.2.2.2.1))))
def VF.spec_l37Find.j0 (d : Unit) : Option ((Int × Unit) × Unit) :=
 some ((-1, ()), ())
def VF.spec_l37Find.l1 (a0 : List TEv) (a1 : Int) (J : Unit → Option ((Int × Unit) × Unit)) (ih : Int → Option ((Int × Unit) × Unit)) (d : Int) : Option ((Int × Unit) × Unit) :=
 sel (decide (d < (List.length a0 : Int)))
 (grd (inb a0 d)
 (sel (decide ((rdL a0 d (0, 0, 0, [], 0, 0, 0, ())).1 = a1)) (some ((d, ()), ()))
 (ih (IntKind.wrap IntKind.i64 (d + 1)))))
 (J ())
def VF.spec_l37Find (k : Nat) (a0 : List TEv) (a1 : Int) : Option ((Int × Unit) × Unit) :=
 join VF.spec_l37Find.j0 fun (J : Unit → Option ((Int × Unit) × Unit)) => iter (VF.spec_l37Find.l1 a0 a1 J) k 0
def VF.spec_l37Before.j0 (d : (Int × Int × Int × List UInt8 × Int × Int × Int) × Int × Int × Int × List UInt8 × Int × Int × Int) : Option ((Bool × Unit) × Unit) :=
 some ((ltS d.1.2.2.2.1 d.2.2.2.2.1, ()), ())
def VF.spec_l37Before.l1 (J : (Int × Int × Int × List UInt8 × Int × Int × Int) × Int × Int × Int × List UInt8 × Int × Int × Int → Option ((Bool × Unit) × Unit)) (ih : (Int × Int × Int × List UInt8 × Int × Int × Int) × (Int × Int × Int × List UInt8 × Int × Int × Int) × List Int × List Int × Int →
 Option ((Bool × Unit) × Unit)) (d : (Int × Int × Int × List UInt8 × Int × Int × Int) × (Int × Int × Int × List UInt8 × Int × Int × Int) × List Int × List Int × Int) : Option ((Bool × Unit) × Unit) :=
 sel (decide (d.2.2.2.2 < (List.length d.2.2.1 : Int)))
 (grd (inb d.2.2.1 d.2.2.2.2)
 (grd (inb d.2.2.2.1 d.2.2.2.2)
 (sel (!decide (rdL d.2.2.1 d.2.2.2.2 0 = rdL d.2.2.2.1 d.2.2.2.2 0))
 (grd (inb d.2.2.1 d.2.2.2.2)
 (grd (inb d.2.2.2.1 d.2.2.2.2)
 (some ((decide (rdL d.2.2.1 d.2.2.2.2 0 < rdL d.2.2.2.1 d.2.2.2.2 0), ()), ()))))
 (ih
 ((d.1.1, d.1.2.1, d.1.2.2.1, d.1.2.2.2.1, d.1.2.2.2.2.1, d.1.2.2.2.2.2.1,
 d.1.2.2.2.2.2.2),
 (d.2.1.1, d.2.1.2.1, d.2.1.2.2.1, d.2.1.2.2.2.1, d.2.1.2.2.2.2.1,
 d.2.1.2.2.2.2.2.1, d.2.1.2.2.2.2.2.2),
 d.2.2.1, d.2.2.2.1, IntKind.wrap IntKind.i64 (d.2.2.2.2 + 1))))))
 (J
 ((d.1.1, d.1.2.1, d.1.2.2.1, d.1.2.2.2.1, d.1.2.2.2.2.1, d.1.2.2.2.2.2.1,
 d.1.2.2.2.2.2.2),
 d.2.1.1, d.2.1.2.1, d.2.1.2.2.1, d.2.1.2.2.2.1, d.2.1.2.2.2.2.1,
 d.2.1.2.2.2.2.2.1, d.2.1.2.2.2.2.2.2))
def VF.spec_l37Before (k : Nat) (a0 : Int × Int × Int × List UInt8 × Int × Int × Int × Unit) (a1 : Int × Int × Int × List UInt8 × Int × Int × Int × Unit) : Option ((Bool × Unit) × Unit) :=
 join VF.spec_l37Before.j0
 fun (J : (Int × Int × Int × List UInt8 × Int × Int × Int) × Int × Int × Int × List UInt8 × Int × Int × Int → Option ((Bool × Unit) × Unit)) =>
 iter (VF.spec_l37Before.l1 J) k
 ((a0.1, a0.2.1, a0.2.2.1, a0.2.2.2.1, a0.2.2.2.2.1, a0.2.2.2.2.2.1, a0.2.2.2.2.2.2.1),
 (a1.1, a1.2.1, a1.2.2.1, a1.2.2.2.1, a1.2.2.2.2.1, a1.2.2.2.2.2.1, a1.2.2.2.2.2.2.1),
 [a0.2.1, a0.1, a0.2.2.1, a0.2.2.2.2.1, a0.2.2.2.2.2.1, a0.2.2.2.2.2.2.1],
 [a1.2.1, a1.1, a1.2.2.1, a1.2.2.2.2.1, a1.2.2.2.2.2.1, a1.2.2.2.2.2.2.1], 0)
def VF.spec_l37Put.j0 (d : (Int × Int × Int × List UInt8 × Int × Int × Int) × List TEv × Int) : Option ((List TEv × Unit) × Unit) :=
 grd (decide (0 ≤ 0) && decide (0 ≤ d.2.2) && decide (d.2.2 ≤ (List.length d.2.1 : Int)))
 (grd (fits (0 + List.length (subL d.2.1 0 d.2.2)) 64)
 (grd (fits (List.length ([] ++ subL d.2.1 0 d.2.2) + 1) 64)
 (grd (decide (0 ≤ d.2.2) && decide (d.2.2 ≤ (List.length d.2.1 : Int)) && decide ((List.length d.2.1 : Int) ≤ (List.length d.2.1 : Int)))
 (grd
 (fits
 (List.length
 ([] ++ subL d.2.1 0 d.2.2 ++
 [(d.1.1, d.1.2.1, d.1.2.2.1, d.1.2.2.2.1, d.1.2.2.2.2.1, d.1.2.2.2.2.2.1,
 d.1.2.2.2.2.2.2, ())]) +
 List.length (subL d.2.1 d.2.2 (List.length d.2.1 : Int)))
 64)
 (some
 (([] ++ subL d.2.1 0 d.2.2 ++
 [(d.1.1, d.1.2.1, d.1.2.2.1, d.1.2.2.2.1, d.1.2.2.2.2.1, d.1.2.2.2.2.2.1,
 d.1.2.2.2.2.2.2, ())] ++
 subL d.2.1 d.2.2 (List.length d.2.1 : Int),
 ()),
 ()))))))
def VF.spec_l37Put.l1 (k : Nat) (J : (Int × Int × Int × List UInt8 × Int × Int × Int) × List TEv × Int →
 Option ((List TEv × Unit) × Unit)) (ih : (Int × Int × Int × List UInt8 × Int × Int × Int) × List TEv × Int →
 Option ((List TEv × Unit) × Unit)) (d : (Int × Int × Int × List UInt8 × Int × Int × Int) × List TEv × Int) : Option ((List TEv × Unit) × Unit) :=
 sel (decide (d.2.2 < (List.length d.2.1 : Int)))
 (grd (inb d.2.1 d.2.2)
 (bnd
 (VF.spec_l37Before k
 ((rdL d.2.1 d.2.2 (0, 0, 0, [], 0, 0, 0, ())).1, (rdL d.2.1 d.2.2 (0, 0, 0, [], 0, 0, 0, ())).2.1,
 (rdL d.2.1 d.2.2 (0, 0, 0, [], 0, 0, 0, ())).2.2.1,
 (rdL d.2.1 d.2.2 (0, 0, 0, [], 0, 0, 0, ())).2.2.2.1,
 (rdL d.2.1 d.2.2 (0, 0, 0, [], 0, 0, 0, ())).2.2.2.2.1,
 (rdL d.2.1 d.2.2 (0, 0, 0, [], 0, 0, 0, ())).2.2.2.2.2.1,
 (rdL d.2.1 d.2.2 (0, 0, 0, [], 0, 0, 0, ())).2.2.2.2.2.2.1, ())
 (d.1.1, d.1.2.1, d.1.2.2.1, d.1.2.2.2.1, d.1.2.2.2.2.1, d.1.2.2.2.2.2.1,
 d.1.2.2.2.2.2.2, ()))
 fun (y : (Bool × Unit) × Unit) =>
 sel y.1.1
 (ih
 ((d.1.1, d.1.2.1, d.1.2.2.1, d.1.2.2.2.1, d.1.2.2.2.2.1, d.1.2.2.2.2.2.1,
 d.1.2.2.2.2.2.2),
 d.2.1, IntKind.wrap IntKind.i64 (d.2.2 + 1)))
 (J
 ((d.1.1, d.1.2.1, d.1.2.2.1, d.1.2.2.2.1, d.1.2.2.2.2.1, d.1.2.2.2.2.2.1,
 d.1.2.2.2.2.2.2),
 d.2.1, d.2.2))))
 (J
 ((d.1.1, d.1.2.1, d.1.2.2.1, d.1.2.2.2.1, d.1.2.2.2.2.1, d.1.2.2.2.2.2.1,
 d.1.2.2.2.2.2.2),
 d.2.1, d.2.2))
def VF.spec_l37Put.j2 (k : Nat) (d : (Int × Int × Int × List UInt8 × Int × Int × Int) × List TEv) : Option ((List TEv × Unit) × Unit) :=
 join VF.spec_l37Put.j0
 fun
 (J :
 (Int × Int × Int × List UInt8 × Int × Int × Int) × List TEv × Int →
 Option ((List TEv × Unit) × Unit)) =>
 iter (VF.spec_l37Put.l1 k J) k
 ((d.1.1, d.1.2.1, d.1.2.2.1, d.1.2.2.2.1, d.1.2.2.2.2.1, d.1.2.2.2.2.2.1,
 d.1.2.2.2.2.2.2),
 d.2, 0)
def VF.spec_l37Put (k : Nat) (a0 : List TEv) (a1 : Int × Int × Int × List UInt8 × Int × Int × Int × Unit) : Option ((List TEv × Unit) × Unit) :=
 bnd (VF.spec_l37Find k a0 a1.1) fun (y : (Int × Unit) × Unit) =>
 grd (fits (0 + List.length a0) 64)
 (join (VF.spec_l37Put.j2 k)
 fun
 (J :
 (Int × Int × Int × List UInt8 × Int × Int × Int) × List TEv →
 Option ((List TEv × Unit) × Unit)) =>
 sel (decide (0 ≤ y.1.1))
 (grd (inb a0 y.1.1)
 (bnd
 (VF.spec_l37Before k
 (a1.1, a1.2.1, a1.2.2.1, a1.2.2.2.1, a1.2.2.2.2.1, a1.2.2.2.2.2.1,
 a1.2.2.2.2.2.2.1, ())
 ((rdL a0 y.1.1 (0, 0, 0, [], 0, 0, 0, ())).1, (rdL a0 y.1.1 (0, 0, 0, [], 0, 0, 0, ())).2.1,
 (rdL a0 y.1.1 (0, 0, 0, [], 0, 0, 0, ())).2.2.1,
 (rdL a0 y.1.1 (0, 0, 0, [], 0, 0, 0, ())).2.2.2.1,
 (rdL a0 y.1.1 (0, 0, 0, [], 0, 0, 0, ())).2.2.2.2.1,
 (rdL a0 y.1.1 (0, 0, 0, [], 0, 0, 0, ())).2.2.2.2.2.1,
 (rdL a0 y.1.1 (0, 0, 0, [], 0, 0, 0, ())).2.2.2.2.2.2.1, ()))
 fun (y_1 : (Bool × Unit) × Unit) =>
 sel (!y_1.1.1) (some (([] ++ a0, ()), ()))
 (grd (decide (0 ≤ 0) && decide (0 ≤ y.1.1) && decide (y.1.1 ≤ (List.length a0 : Int)))
 (grd (fits (0 + List.length (subL a0 0 y.1.1)) 64)
 (grd
 (decide (0 ≤ IntKind.wrap IntKind.i64 (y.1.1 + 1)) && decide (IntKind.wrap IntKind.i64 (y.1.1 + 1) ≤ (List.length a0 : Int)) &&
 decide ((List.length a0 : Int) ≤ (List.length a0 : Int)))
 (grd
 (fits
 (List.length ([] ++ subL a0 0 y.1.1) + List.length (subL a0 (IntKind.wrap IntKind.i64 (y.1.1 + 1)) (List.length a0 : Int)))
 64)
 (J
 ((a1.1, a1.2.1, a1.2.2.1, a1.2.2.2.1, a1.2.2.2.2.1, a1.2.2.2.2.2.1,
 a1.2.2.2.2.2.2.1),
 [] ++ subL a0 0 y.1.1 ++ subL a0 (IntKind.wrap IntKind.i64 (y.1.1 + 1)) (List.length a0 : Int)))))))))
 (J
 ((a1.1, a1.2.1, a1.2.2.1, a1.2.2.2.1, a1.2.2.2.2.1, a1.2.2.2.2.2.1,
 a1.2.2.2.2.2.2.1),
 [] ++ a0)))
def VF.spec_SortEvents.j0 (d : List TEv) : Option ((List TEv × Unit) × Unit) :=
 some ((d, ()), ())
def VF.spec_SortEvents.l1 (k : Nat) (a0 : List TEv) (J : List TEv →
 Option ((List TEv × Unit) × Unit)) (ih : List TEv × Int →
 Option ((List TEv × Unit) × Unit)) (d : List TEv × Int) : Option ((List TEv × Unit) × Unit) :=
 sel (decide (d.2 < (List.length a0 : Int)))
 (sel (decide ((List.length a0 : Int) ≤ 100))
 (grd (inb a0 d.2)
 (bnd
 (VF.spec_IsEvent k
 ((rdL a0 d.2 (0, 0, 0, [], 0, 0, 0, ())).1, (rdL a0 d.2 (0, 0, 0, [], 0, 0, 0, ())).2.1,
 (rdL a0 d.2 (0, 0, 0, [], 0, 0, 0, ())).2.2.1, (rdL a0 d.2 (0, 0, 0, [], 0, 0, 0, ())).2.2.2.1,
 (rdL a0 d.2 (0, 0, 0, [], 0, 0, 0, ())).2.2.2.2.1,
 (rdL a0 d.2 (0, 0, 0, [], 0, 0, 0, ())).2.2.2.2.2.1,
 (rdL a0 d.2 (0, 0, 0, [], 0, 0, 0, ())).2.2.2.2.2.2.1, ()))
 fun (y : (Bool × Unit) × Unit) =>
 sel y.1.1
 (grd (inb a0 d.2)
 (bnd
 (VF.spec_l37Put k d.1
 ((rdL a0 d.2 (0, 0, 0, [], 0, 0, 0, ())).1, (rdL a0 d.2 (0, 0, 0, [], 0, 0, 0, ())).2.1,
 (rdL a0 d.2 (0, 0, 0, [], 0, 0, 0, ())).2.2.1, (rdL a0 d.2 (0, 0, 0, [], 0, 0, 0, ())).2.2.2.1,
 (rdL a0 d.2 (0, 0, 0, [], 0, 0, 0, ())).2.2.2.2.1,
 (rdL a0 d.2 (0, 0, 0, [], 0, 0, 0, ())).2.2.2.2.2.1,
 (rdL a0 d.2 (0, 0, 0, [], 0, 0, 0, ())).2.2.2.2.2.2.1, ()))
 fun (y : (List TEv × Unit) × Unit) =>
 ih (y.1.1, IntKind.wrap IntKind.i64 (d.2 + 1))))
 (ih (d.1, IntKind.wrap IntKind.i64 (d.2 + 1)))))
 (J d.1))
 (J d.1)
def VF.spec_SortEvents (k : Nat) (a0 : List TEv) : Option ((List TEv × Unit) × Unit) :=
 join VF.spec_SortEvents.j0
 fun
 (J :
 List TEv →
 Option ((List TEv × Unit) × Unit)) =>
 iter (VF.spec_SortEvents.l1 k a0 J) k ([], 0)
def VF.spec_AreLayers.j0 (a0 : List TLay) (d : Unit) : Option ((Bool × Unit) × Unit) :=
 some ((decide ((List.length a0 : Int) ≤ 24), ()), ())
def VF.spec_AreLayers.j1 (ih : Int → Option ((Bool × Unit) × Unit)) (d : Int) : Option ((Bool × Unit) × Unit) :=
 ih (IntKind.wrap IntKind.i64 (d + 1))
def VF.spec_AreLayers.l2 (k : Nat) (a0 : List TLay) (J : Unit → Option ((Bool × Unit) × Unit)) (ih : Int → Option ((Bool × Unit) × Unit)) (d : Int) : Option ((Bool × Unit) × Unit) :=
 sel (decide (d < (List.length a0 : Int)))
 (join (VF.spec_AreLayers.j1 ih) fun (J : Int → Option ((Bool × Unit) × Unit)) =>
 grd (inb a0 d)
 (bnd (VF.spec_l1In k (rdL a0 d (0, 0, 0, ())).1 1 100000) fun (y : (Bool × Unit) × Unit) =>
 sel (!y.1.1) (some ((false, ()), ()))
 (grd (inb a0 d)
 (bnd (VF.spec_l1In k (rdL a0 d (0, 0, 0, ())).2.1 0 1000000000) fun (y : (Bool × Unit) × Unit) =>
 sel (!y.1.1) (some ((false, ()), ()))
 (grd (inb a0 d)
 (grd (inb a0 d)
 (bnd (VF.spec_l1In k (rdL a0 d (0, 0, 0, ())).2.2.1 0 (rdL a0 d (0, 0, 0, ())).1)
 fun (y : (Bool × Unit) × Unit) =>
 sel (!y.1.1) (some ((false, ()), ()))
 (sel (decide (0 < d))
 (grd (inb a0 d)
 (sel (decide (0 < (rdL a0 d (0, 0, 0, ())).2.2.1))
 (grd (inb a0 (IntKind.wrap IntKind.i64 (d - 1)))
 (grd (inb a0 (IntKind.wrap IntKind.i64 (d - 1)))
 (sel
 (decide
 ((rdL a0 (IntKind.wrap IntKind.i64 (d - 1)) (0, 0, 0, ())).2.2.1 <
 (rdL a0 (IntKind.wrap IntKind.i64 (d - 1)) (0, 0, 0, ())).1))
 (some ((false, ()), ())) (J d))))
 (J d)))
 (J d)))))))))
 (J ())
def VF.spec_AreLayers (k : Nat) (a0 : List TLay) : Option ((Bool × Unit) × Unit) :=
 join (VF.spec_AreLayers.j0 a0) fun (J : Unit → Option ((Bool × Unit) × Unit)) => iter (VF.spec_AreLayers.l2 k a0 J) k 0
def VF.spec_AreBooks.j0 (k : Nat) (d : List TShelf × Int × List TDoc) : Option ((Bool × Unit) × Unit) :=
 sel (decide ((List.length d.1 : Int) ≤ 12))
 (bnd (VF.spec_l1In k d.2.1 0 1000000000) fun (y : (Bool × Unit) × Unit) =>
 sel y.1.1 (bnd (VF.spec_AreDocuments k d.2.2) fun (y : (Bool × Unit) × Unit) => some ((y.1.1, ()), ()))
 (some ((false, ()), ())))
 (some ((false, ()), ()))
def VF.spec_AreBooks.j1 (ih : (List TShelf × Int × List TDoc) × Int →
 Option ((Bool × Unit) × Unit)) (d : (List TShelf × Int × List TDoc) × Int) : Option ((Bool × Unit) × Unit) :=
 ih ((d.1.1, d.1.2.1, d.1.2.2), IntKind.wrap IntKind.i64 (d.2 + 1))
def VF.spec_AreBooks.l2 (k : Nat) (J : (List TShelf × Int × List TDoc) × Int →
 Option ((Bool × Unit) × Unit)) (ih : (List TShelf × Int × List TDoc) ×
 Int × (List UInt8 × List Int × List TLay) × Int →
 Option ((Bool × Unit) × Unit)) (d : (List TShelf × Int × List TDoc) ×
 Int × (List UInt8 × List Int × List TLay) × Int) : Option ((Bool × Unit) × Unit) :=
 sel (decide (d.2.2.2 < (List.length d.2.2.1.2.1 : Int)))
 (grd (inb d.2.2.1.2.1 d.2.2.2)
 (bnd (VF.spec_l1In k (rdL d.2.2.1.2.1 d.2.2.2 0) 1 9999) fun (y : (Bool × Unit) × Unit) =>
 sel (!y.1.1) (some ((false, ()), ()))
 (ih
 ((d.1.1, d.1.2.1, d.1.2.2), d.2.1, (d.2.2.1.1, d.2.2.1.2.1, d.2.2.1.2.2),
 IntKind.wrap IntKind.i64 (d.2.2.2 + 1)))))
 (J ((d.1.1, d.1.2.1, d.1.2.2), d.2.1))
def VF.spec_AreBooks.j3 (k : Nat) (J : (List TShelf × Int × List TDoc) × Int →
 Option ((Bool × Unit) × Unit)) (d : (List TShelf × Int × List TDoc) ×
 Int × List UInt8 × List Int × List TLay) : Option ((Bool × Unit) × Unit) :=
 iter (VF.spec_AreBooks.l2 k J) k ((d.1.1, d.1.2.1, d.1.2.2), d.2.1, (d.2.2.1, d.2.2.2.1, d.2.2.2.2), 0)
def VF.spec_AreBooks.l4 (k : Nat) (J : List TShelf × Int × List TDoc →
 Option ((Bool × Unit) × Unit)) (ih : (List TShelf × Int × List TDoc) × Int →
 Option ((Bool × Unit) × Unit)) (d : (List TShelf × Int × List TDoc) × Int) : Option ((Bool × Unit) × Unit) :=
 sel (decide (d.2 < (List.length d.1.1 : Int)))
 (join (VF.spec_AreBooks.j1 ih)
 fun
 (J :
 (List TShelf × Int × List TDoc) ×
 Int →
 Option ((Bool × Unit) × Unit)) =>
 grd (inb d.1.1 d.2)
 (join (VF.spec_AreBooks.j3 k J)
 fun
 (J :
 (List TShelf ×
 Int × List TDoc) ×
 Int × List UInt8 × List Int × List TLay →
 Option ((Bool × Unit) × Unit)) =>
 bnd (VF.spec_IsCode k (rdL d.1.1 d.2 ([], [], [], ())).1) fun (y : (Bool × Unit) × Unit) =>
 sel (!y.1.1) (some ((false, ()), ()))
 (sel
 (!decide
 ((List.length (rdL d.1.1 d.2 ([], [], [], ())).2.1 : Int) =
 (List.length (rdL d.1.1 d.2 ([], [], [], ())).2.2.1 : Int)))
 (some ((false, ()), ()))
 (bnd (VF.spec_AreLayers k (rdL d.1.1 d.2 ([], [], [], ())).2.2.1) fun (y : (Bool × Unit) × Unit) =>
 sel (!y.1.1) (some ((false, ()), ()))
 (sel (decide (0 < d.2))
 (grd (inb d.1.1 (IntKind.wrap IntKind.i64 (d.2 - 1)))
 (sel
 (!ltS (rdL d.1.1 (IntKind.wrap IntKind.i64 (d.2 - 1)) ([], [], [], ())).1
 (rdL d.1.1 d.2 ([], [], [], ())).1)
 (some ((false, ()), ()))
 (J
 ((d.1.1, d.1.2.1, d.1.2.2), d.2, (rdL d.1.1 d.2 ([], [], [], ())).1,
 (rdL d.1.1 d.2 ([], [], [], ())).2.1, (rdL d.1.1 d.2 ([], [], [], ())).2.2.1))))
 (J
 ((d.1.1, d.1.2.1, d.1.2.2), d.2, (rdL d.1.1 d.2 ([], [], [], ())).1,
 (rdL d.1.1 d.2 ([], [], [], ())).2.1, (rdL d.1.1 d.2 ([], [], [], ())).2.2.1)))))))
 (J (d.1.1, d.1.2.1, d.1.2.2))
def VF.spec_AreBooks (k : Nat) (a0 : List TShelf × Int × List TDoc × Unit) : Option ((Bool × Unit) × Unit) :=
 join (VF.spec_AreBooks.j0 k)
 fun
 (J :
 List TShelf × Int × List TDoc →
 Option ((Bool × Unit) × Unit)) =>
 iter (VF.spec_AreBooks.l4 k J) k ((a0.1, a0.2.1, a0.2.2.1), 0)
def VF.spec_l36Copy.j0 (d : (List TShelf × Int × List TDoc) ×
 List TShelf × Int × List TDoc) : Option
 ((TBooks ×
 Unit) ×
 Unit) :=
 some (((d.2.1, d.2.2.1, d.2.2.2, ()), ()), ())
def VF.spec_l36Copy.l1 (J : (List TShelf × Int × List TDoc) ×
 List TShelf × Int × List TDoc →
 Option
 ((TBooks ×
 Unit) ×
 Unit)) (ih : (List TShelf × Int × List TDoc) ×
 (List TShelf × Int × List TDoc) ×
 (List TShelf × Int × List TDoc) ×
 Int →
 Option
 ((TBooks ×
 Unit) ×
 Unit)) (d : (List TShelf × Int × List TDoc) ×
 (List TShelf × Int × List TDoc) ×
 (List TShelf × Int × List TDoc) × Int) : Option
 ((TBooks ×
 Unit) ×
 Unit) :=
 sel (decide (d.2.2.2 < (List.length d.1.1 : Int)))
 (grd (inb d.1.1 d.2.2.2)
 (grd (fits (0 + List.length (rdL d.1.1 d.2.2.2 ([], [], [], ())).2.1) 8)
 (grd (fits (0 + List.length (rdL d.1.1 d.2.2.2 ([], [], [], ())).2.2.1) 24)
 (grd (fits (List.length d.2.2.1.1 + 1) 64)
 (ih
 ((d.1.1, d.1.2.1, d.1.2.2), (d.2.1.1, d.2.1.2.1, d.2.1.2.2),
 (d.2.2.1.1 ++
 [((rdL d.1.1 d.2.2.2 ([], [], [], ())).1, [] ++ (rdL d.1.1 d.2.2.2 ([], [], [], ())).2.1,
 [] ++ (rdL d.1.1 d.2.2.2 ([], [], [], ())).2.2.1, ())],
 d.2.2.1.2.1, d.2.2.1.2.2),
 IntKind.wrap IntKind.i64 (d.2.2.2 + 1)))))))
 (J ((d.2.1.1, d.2.1.2.1, d.2.1.2.2), d.2.2.1.1, d.2.2.1.2.1, d.2.2.1.2.2))
def VF.spec_l36Copy (k : Nat) (a0 : List TShelf × Int × List TDoc × Unit) : Option
 ((TBooks ×
 Unit) ×
 Unit) :=
 bnd (VF.spec_l35Copy k a0.2.2.1) fun (y : (List TDoc × Unit) × Unit) =>
 join VF.spec_l36Copy.j0
 fun
 (J :
 (List TShelf × Int × List TDoc) ×
 List TShelf × Int × List TDoc →
 Option
 ((TBooks ×
 Unit) ×
 Unit)) =>
 iter (VF.spec_l36Copy.l1 J) k ((a0.1, a0.2.1, a0.2.2.1), ([], 0, []), ([], a0.2.1, y.1.1), 0)
def VF.spec_l36Shelf.j0 (d : Unit) : Option ((Int × Unit) × Unit) :=
 some ((-1, ()), ())
def VF.spec_l36Shelf.l1 (a1 : List UInt8) (J : Unit → Option ((Int × Unit) × Unit)) (ih : (List TShelf × Int × List TDoc) × Int →
 Option ((Int × Unit) × Unit)) (d : (List TShelf × Int × List TDoc) × Int) : Option ((Int × Unit) × Unit) :=
 sel (decide (d.2 < (List.length d.1.1 : Int)))
 (grd (inb d.1.1 d.2)
 (sel (decide ((rdL d.1.1 d.2 ([], [], [], ())).1 = a1)) (some ((d.2, ()), ()))
 (ih ((d.1.1, d.1.2.1, d.1.2.2), IntKind.wrap IntKind.i64 (d.2 + 1)))))
 (J ())
def VF.spec_l36Shelf (k : Nat) (a0 : List TShelf × Int × List TDoc × Unit) (a1 : List UInt8) : Option ((Int × Unit) × Unit) :=
 join VF.spec_l36Shelf.j0 fun (J : Unit → Option ((Int × Unit) × Unit)) =>
 iter (VF.spec_l36Shelf.l1 a1 J) k ((a0.1, a0.2.1, a0.2.2.1), 0)
def VF.spec_ReceiveLayer (k : Nat) (a0 : List TLay) (a1 : Int) (a2 : Int) : Option ((List TLay × Bool × Unit) × Unit) :=
 grd (fits (0 + List.length a0) 24)
 (grd (fits (List.length ([] ++ a0) + 1) 24)
 (bnd (VF.spec_AreLayers k ([] ++ a0 ++ [(a1, a2, 0, ())])) fun (y : (Bool × Unit) × Unit) =>
 sel (!y.1.1) (some (([], false, ()), ())) (some (([] ++ a0 ++ [(a1, a2, 0, ())], true, ()), ()))))
def VF.spec_l36Receive.j0 (d : (List TShelf × Int × List TDoc) ×
 (Int × Int × Int × List UInt8 × Int × Int × Int) ×
 (List TShelf × Int × List TDoc) × Int) : Option
 ((TBooks ×
 Int × Unit) ×
 Unit) :=
 grd (inb d.1.1 d.2.2.2)
 (grd (fits (List.length (rdL d.1.1 d.2.2.2 ([], [], [], ())).2.1 + 1) 8)
 (grd (inb d.1.1 d.2.2.2)
 (grd (decide (d.2.2.2 = d.2.2.2))
 (some
 (((wrL d.1.1 d.2.2.2
 ((rdL d.1.1 d.2.2.2 ([], [], [], ())).1,
 (rdL d.1.1 d.2.2.2 ([], [], [], ())).2.1 ++ [d.2.1.1],
 (rdL d.1.1 d.2.2.2 ([], [], [], ())).2.2),
 d.1.2.1, d.1.2.2, ()),
 0, ()),
 ())))))
def VF.spec_l36Receive.j1 (d : (List TShelf × Int × List TDoc) ×
 (Int × Int × Int × List UInt8 × Int × Int × Int) ×
 (List TShelf × Int × List TDoc) ×
 Int × List TLay) : Option
 ((TBooks ×
 Int × Unit) ×
 Unit) :=
 join VF.spec_l36Receive.j0
 fun
 (J :
 (List TShelf × Int × List TDoc) ×
 (Int × Int × Int × List UInt8 × Int × Int × Int) ×
 (List TShelf ×
 Int × List TDoc) ×
 Int →
 Option
 ((TBooks ×
 Int × Unit) ×
 Unit)) =>
 grd (inb d.1.1 d.2.2.2.1)
 (J
 ((wrL d.1.1 d.2.2.2.1
 ((rdL d.1.1 d.2.2.2.1 ([], [], [], ())).1, (rdL d.1.1 d.2.2.2.1 ([], [], [], ())).2.1,
 d.2.2.2.2, (rdL d.1.1 d.2.2.2.1 ([], [], [], ())).2.2.2),
 d.1.2.1, d.1.2.2),
 (d.2.1.1, d.2.1.2.1, d.2.1.2.2.1, d.2.1.2.2.2.1, d.2.1.2.2.2.2.1,
 d.2.1.2.2.2.2.2.1, d.2.1.2.2.2.2.2.2),
 (d.2.2.1.1, d.2.2.1.2.1, d.2.2.1.2.2), d.2.2.2.1))
def VF.spec_l36Receive.j2 (k : Nat) (d : (List TShelf × Int × List TDoc) ×
 (Int × Int × Int × List UInt8 × Int × Int × Int) ×
 (List TShelf × Int × List TDoc) × Int) : Option
 ((TBooks ×
 Int × Unit) ×
 Unit) :=
 grd (inb d.1.1 d.2.2.2)
 (bnd
 (VF.spec_ReceiveLayer k (rdL d.1.1 d.2.2.2 ([], [], [], ())).2.2.1 d.2.1.2.2.2.2.1
 d.2.1.2.2.2.2.2.1)
 fun (y : (List TLay × Bool × Unit) × Unit) =>
 join VF.spec_l36Receive.j1
 fun
 (J :
 (List TShelf × Int × List TDoc) ×
 (Int × Int × Int × List UInt8 × Int × Int × Int) ×
 (List TShelf ×
 Int × List TDoc) ×
 Int × List TLay →
 Option
 ((TBooks ×
 Int × Unit) ×
 Unit)) =>
 sel (!y.1.2.1) (some (((d.1.1, d.1.2.1, d.1.2.2, ()), 3, ()), ()))
 (sel (decide (12 < (List.length d.1.1 : Int))) (some (((d.1.1, d.1.2.1, d.1.2.2, ()), 3, ()), ()))
 (J
 ((d.1.1, d.1.2.1, d.1.2.2),
 (d.2.1.1, d.2.1.2.1, d.2.1.2.2.1, d.2.1.2.2.2.1, d.2.1.2.2.2.2.1,
 d.2.1.2.2.2.2.2.1, d.2.1.2.2.2.2.2.2),
 (d.2.2.1.1, d.2.2.1.2.1, d.2.2.1.2.2), d.2.2.2, y.1.1))))
def VF.spec_l36Receive.j3 (J : (List TShelf × Int × List TDoc) ×
 (Int × Int × Int × List UInt8 × Int × Int × Int) ×
 (List TShelf × Int × List TDoc) ×
 Int →
 Option
 ((TBooks ×
 Int × Unit) ×
 Unit)) (d : (List TShelf × Int × List TDoc) ×
 (Int × Int × Int × List UInt8 × Int × Int × Int) ×
 (List TShelf × Int × List TDoc) × Int) : Option
 ((TBooks ×
 Int × Unit) ×
 Unit) :=
 grd (decide (0 ≤ 0) && decide (0 ≤ d.2.2.2) && decide (d.2.2.2 ≤ (List.length d.1.1 : Int)))
 (grd (fits (0 + List.length (subL d.1.1 0 d.2.2.2)) 64)
 (grd (fits (0 + Int.toNat (d.2.2.2 - 0) + 0 + 1) 64)
 (grd
 (decide (0 ≤ d.2.2.2) && decide (d.2.2.2 ≤ (List.length d.1.1 : Int)) &&
 decide ((List.length d.1.1 : Int) ≤ (List.length d.1.1 : Int)))
 (grd
 (decide (d.2.2.2 ≤ d.2.2.2) &&
 fits
 (List.length ([] ++ (subL d.1.1 0 d.2.2.2 ++ ([] ++ [(d.2.1.2.2.2.1, [], [], ())]))) +
 List.length (subL d.1.1 d.2.2.2 (List.length d.1.1 : Int)))
 64)
 (J
 (([] ++ (subL d.1.1 0 d.2.2.2 ++ ([] ++ [(d.2.1.2.2.2.1, [], [], ())])) ++
 subL d.1.1 d.2.2.2 (List.length d.1.1 : Int),
 d.1.2.1, d.1.2.2),
 (d.2.1.1, d.2.1.2.1, d.2.1.2.2.1, d.2.1.2.2.2.1, d.2.1.2.2.2.2.1,
 d.2.1.2.2.2.2.2.1, d.2.1.2.2.2.2.2.2),
 (d.2.2.1.1, d.2.2.1.2.1, d.2.2.1.2.2), d.2.2.2))))))
def VF.spec_l36Receive.l4 (J : (List TShelf × Int × List TDoc) ×
 (Int × Int × Int × List UInt8 × Int × Int × Int) ×
 (List TShelf × Int × List TDoc) ×
 Int →
 Option
 ((TBooks ×
 Int × Unit) ×
 Unit)) (ih : (List TShelf × Int × List TDoc) ×
 (Int × Int × Int × List UInt8 × Int × Int × Int) ×
 (List TShelf × Int × List TDoc) ×
 Int →
 Option
 ((TBooks ×
 Int × Unit) ×
 Unit)) (d : (List TShelf × Int × List TDoc) ×
 (Int × Int × Int × List UInt8 × Int × Int × Int) ×
 (List TShelf × Int × List TDoc) × Int) : Option
 ((TBooks ×
 Int × Unit) ×
 Unit) :=
 sel (decide (d.2.2.2 < (List.length d.1.1 : Int)))
 (grd (inb d.1.1 d.2.2.2)
 (sel (ltS (rdL d.1.1 d.2.2.2 ([], [], [], ())).1 d.2.1.2.2.2.1)
 (ih
 ((d.1.1, d.1.2.1, d.1.2.2),
 (d.2.1.1, d.2.1.2.1, d.2.1.2.2.1, d.2.1.2.2.2.1, d.2.1.2.2.2.2.1,
 d.2.1.2.2.2.2.2.1, d.2.1.2.2.2.2.2.2),
 (d.2.2.1.1, d.2.2.1.2.1, d.2.2.1.2.2), IntKind.wrap IntKind.i64 (d.2.2.2 + 1)))
 (J
 ((d.1.1, d.1.2.1, d.1.2.2),
 (d.2.1.1, d.2.1.2.1, d.2.1.2.2.1, d.2.1.2.2.2.1, d.2.1.2.2.2.2.1,
 d.2.1.2.2.2.2.2.1, d.2.1.2.2.2.2.2.2),
 (d.2.2.1.1, d.2.2.1.2.1, d.2.2.1.2.2), d.2.2.2))))
 (J
 ((d.1.1, d.1.2.1, d.1.2.2),
 (d.2.1.1, d.2.1.2.1, d.2.1.2.2.1, d.2.1.2.2.2.1, d.2.1.2.2.2.2.1,
 d.2.1.2.2.2.2.2.1, d.2.1.2.2.2.2.2.2),
 (d.2.2.1.1, d.2.2.1.2.1, d.2.2.1.2.2), d.2.2.2))
def VF.spec_l36Receive (k : Nat) (a0 : List TShelf × Int × List TDoc × Unit) (a1 : Int × Int × Int × List UInt8 × Int × Int × Int × Unit) : Option
 ((TBooks ×
 Int × Unit) ×
 Unit) :=
 bnd (VF.spec_l36Shelf k (a0.1, a0.2.1, a0.2.2.1, ()) a1.2.2.2.1) fun (y : (Int × Unit) × Unit) =>
 join (VF.spec_l36Receive.j2 k)
 fun
 (J :
 (List TShelf × Int × List TDoc) ×
 (Int × Int × Int × List UInt8 × Int × Int × Int) ×
 (List TShelf ×
 Int × List TDoc) ×
 Int →
 Option
 ((TBooks ×
 Int × Unit) ×
 Unit)) =>
 sel (decide (y.1.1 < 0))
 (join (VF.spec_l36Receive.j3 J)
 fun
 (J :
 (List TShelf ×
 Int × List TDoc) ×
 (Int × Int × Int × List UInt8 × Int × Int × Int) ×
 (List TShelf ×
 Int × List TDoc) ×
 Int →
 Option
 ((TBooks ×
 Int × Unit) ×
 Unit)) =>
 iter (VF.spec_l36Receive.l4 J) k
 ((a0.1, a0.2.1, a0.2.2.1),
 (a1.1, a1.2.1, a1.2.2.1, a1.2.2.2.1, a1.2.2.2.2.1, a1.2.2.2.2.2.1,
 a1.2.2.2.2.2.2.1),
 ([], 0, []), 0))
 (J
 ((a0.1, a0.2.1, a0.2.2.1),
 (a1.1, a1.2.1, a1.2.2.1, a1.2.2.2.1, a1.2.2.2.2.1, a1.2.2.2.2.2.1,
 a1.2.2.2.2.2.2.1),
 ([], 0, []), y.1.1))
def VF.spec_l36Post.j0 (k : Nat) (a1 : Int) (d : (List TShelf × Int × List TDoc) ×
 (List TShelf × Int × List TDoc) ×
 List TEnt) : Option
 ((TBooks ×
 Int × Unit) ×
 Unit) :=
 sel (decide ((List.length d.2.2 : Int) = 0)) (some (((d.1.1, d.1.2.1, d.1.2.2, ()), 0, ()), ()))
 (bnd (VF.spec_PostEntries k d.1.2.2 a1 d.2.2)
 fun (y : (List TDoc × Bool × Unit) × Unit) =>
 sel (!y.1.2.1) (some (((d.1.1, d.1.2.1, d.1.2.2, ()), 3, ()), ()))
 (some (((d.1.1, d.1.2.1, y.1.1, ()), 0, ()), ())))
def VF.spec_l36Post.l1 (a2 : List (List UInt8)) (a3 : List Int) (J : (List TShelf × Int × List TDoc) ×
 (List TShelf × Int × List TDoc) ×
 List TEnt →
 Option
 ((TBooks ×
 Int × Unit) ×
 Unit)) (ih : (List TShelf × Int × List TDoc) ×
 (List TShelf × Int × List TDoc) ×
 List TEnt × Int →
 Option
 ((TBooks ×
 Int × Unit) ×
 Unit)) (d : (List TShelf × Int × List TDoc) ×
 (List TShelf × Int × List TDoc) ×
 List TEnt × Int) : Option
 ((TBooks ×
 Int × Unit) ×
 Unit) :=
 sel (decide (d.2.2.2 < (List.length a2 : Int)))
 (grd (inb a3 d.2.2.2)
 (sel (!decide (rdL a3 d.2.2.2 0 = 0))
 (grd (inb a2 d.2.2.2)
 (grd (inb a3 d.2.2.2)
 (grd (fits (List.length d.2.2.1 + 1) 24)
 (ih
 ((d.1.1, d.1.2.1, d.1.2.2), (d.2.1.1, d.2.1.2.1, d.2.1.2.2),
 d.2.2.1 ++ [(rdL a2 d.2.2.2 [], rdL a3 d.2.2.2 0, ())], IntKind.wrap IntKind.i64 (d.2.2.2 + 1))))))
 (ih
 ((d.1.1, d.1.2.1, d.1.2.2), (d.2.1.1, d.2.1.2.1, d.2.1.2.2), d.2.2.1,
 IntKind.wrap IntKind.i64 (d.2.2.2 + 1)))))
 (J ((d.1.1, d.1.2.1, d.1.2.2), (d.2.1.1, d.2.1.2.1, d.2.1.2.2), d.2.2.1))
def VF.spec_l36Post (k : Nat) (a0 : List TShelf × Int × List TDoc × Unit) (a1 : Int) (a2 : List (List UInt8)) (a3 : List Int) : Option
 ((TBooks ×
 Int × Unit) ×
 Unit) :=
 join (VF.spec_l36Post.j0 k a1)
 fun
 (J :
 (List TShelf × Int × List TDoc) ×
 (List TShelf × Int × List TDoc) ×
 List TEnt →
 Option
 ((TBooks ×
 Int × Unit) ×
 Unit)) =>
 iter (VF.spec_l36Post.l1 a2 a3 J) k ((a0.1, a0.2.1, a0.2.2.1), ([], 0, []), [], 0)
def VF.spec_l31Cost (k : Nat) (a0 : Int × Int × Int × Unit) (a1 : Int) : Option ((Int × Unit) × Unit) :=
 grd (!decide (a0.1 = 0)) (some ((IntKind.wrap IntKind.i64 (Int.tdiv (IntKind.wrap IntKind.i64 (a0.2.1 * a1)) a0.1), ()), ()))
def VF.spec_LeftOf.j0 (d : Int) : Option ((Int × Unit) × Unit) :=
 some ((d, ()), ())
def VF.spec_LeftOf.l1 (k : Nat) (a0 : List TLay) (J : Int → Option ((Int × Unit) × Unit)) (ih : Int × Int → Option ((Int × Unit) × Unit)) (d : Int × Int) : Option ((Int × Unit) × Unit) :=
 sel (decide (d.2 < (List.length a0 : Int)))
 (bnd (VF.spec_AreLayers k a0) fun (y : (Bool × Unit) × Unit) =>
 sel y.1.1
 (grd (inb a0 d.2)
 (grd (inb a0 d.2)
 (ih
 (IntKind.wrap IntKind.i64
 (IntKind.wrap IntKind.i64 (d.1 + (rdL a0 d.2 (0, 0, 0, ())).1) - (rdL a0 d.2 (0, 0, 0, ())).2.2.1),
 IntKind.wrap IntKind.i64 (d.2 + 1)))))
 (J d.1))
 (J d.1)
def VF.spec_LeftOf (k : Nat) (a0 : List TLay) : Option ((Int × Unit) × Unit) :=
 join VF.spec_LeftOf.j0 fun (J : Int → Option ((Int × Unit) × Unit)) => iter (VF.spec_LeftOf.l1 k a0 J) k (0, 0)
def VF.spec_IssueLayers.j0 (d : List TLay × Int) : Option ((List TLay × Int × Bool × Unit) × Unit) :=
 some ((d.1, d.2, true, ()), ())
def VF.spec_IssueLayers.l1 (k : Nat) (J : List TLay × Int → Option ((List TLay × Int × Bool × Unit) × Unit)) (ih : List TLay × Int × Int × Int → Option ((List TLay × Int × Bool × Unit) × Unit)) (d : List TLay × Int × Int × Int) : Option ((List TLay × Int × Bool × Unit) × Unit) :=
 sel (decide (d.2.2.2 < (List.length d.1 : Int)))
 (sel (decide (0 < d.2.1))
 (grd (inb d.1 d.2.2.2)
 (grd (inb d.1 d.2.2.2)
 (grd (inb d.1 d.2.2.2)
 (grd (inb d.1 d.2.2.2)
 (bnd
 (VF.spec_l31Cost k
 ((rdL d.1 d.2.2.2 (0, 0, 0, ())).1, (rdL d.1 d.2.2.2 (0, 0, 0, ())).2.1,
 (rdL d.1 d.2.2.2 (0, 0, 0, ())).2.2.1, ())
 (IntKind.wrap IntKind.i64
 ((rdL d.1 d.2.2.2 (0, 0, 0, ())).2.2.1 +
 mnI d.2.1
 (IntKind.wrap IntKind.i64
 ((rdL d.1 d.2.2.2 (0, 0, 0, ())).1 - (rdL d.1 d.2.2.2 (0, 0, 0, ())).2.2.1)))))
 fun (y : (Int × Unit) × Unit) =>
 grd (inb d.1 d.2.2.2)
 (grd (inb d.1 d.2.2.2)
 (bnd
 (VF.spec_l31Cost k
 ((rdL d.1 d.2.2.2 (0, 0, 0, ())).1, (rdL d.1 d.2.2.2 (0, 0, 0, ())).2.1,
 (rdL d.1 d.2.2.2 (0, 0, 0, ())).2.2.1, ())
 (rdL d.1 d.2.2.2 (0, 0, 0, ())).2.2.1)
 fun (y_1 : (Int × Unit) × Unit) =>
 grd (inb d.1 d.2.2.2)
 (grd (inb d.1 d.2.2.2)
 (ih
 (wrL d.1 d.2.2.2
 ((rdL d.1 d.2.2.2 (0, 0, 0, ())).1, (rdL d.1 d.2.2.2 (0, 0, 0, ())).2.1,
 IntKind.wrap IntKind.i64
 ((rdL d.1 d.2.2.2 (0, 0, 0, ())).2.2.1 +
 mnI d.2.1
 (IntKind.wrap IntKind.i64
 ((rdL d.1 d.2.2.2 (0, 0, 0, ())).1 -
 (rdL d.1 d.2.2.2 (0, 0, 0, ())).2.2.1))),
 (rdL d.1 d.2.2.2 (0, 0, 0, ())).2.2.2),
 IntKind.wrap IntKind.i64
 (d.2.1 -
 mnI d.2.1
 (IntKind.wrap IntKind.i64
 ((rdL d.1 d.2.2.2 (0, 0, 0, ())).1 -
 (rdL d.1 d.2.2.2 (0, 0, 0, ())).2.2.1))),
 IntKind.wrap IntKind.i64 (IntKind.wrap IntKind.i64 (d.2.2.1 + y.1.1) - y_1.1.1),
 IntKind.wrap IntKind.i64 (d.2.2.2 + 1)))))))))))
 (J (d.1, d.2.2.1)))
 (J (d.1, d.2.2.1))
def VF.spec_IssueLayers.j2 (k : Nat) (a0 : List TLay) (a1 : Int) (d : Unit) : Option ((List TLay × Int × Bool × Unit) × Unit) :=
 grd (fits (0 + List.length a0) 24)
 (join VF.spec_IssueLayers.j0
 fun (J : List TLay × Int → Option ((List TLay × Int × Bool × Unit) × Unit)) =>
 iter (VF.spec_IssueLayers.l1 k J) k ([] ++ a0, a1, 0, 0))
def VF.spec_IssueLayers (k : Nat) (a0 : List TLay) (a1 : Int) : Option ((List TLay × Int × Bool × Unit) × Unit) :=
 join (VF.spec_IssueLayers.j2 k a0 a1) fun (J : Unit → Option ((List TLay × Int × Bool × Unit) × Unit)) =>
 bnd (VF.spec_AreLayers k a0) fun (y : (Bool × Unit) × Unit) =>
 sel (!y.1.1) (some (([], 0, false, ()), ()))
 (bnd (VF.spec_LeftOf k a0) fun (y : (Int × Unit) × Unit) =>
 bnd (VF.spec_l1In k a1 1 y.1.1) fun (y : (Bool × Unit) × Unit) =>
 sel (!y.1.1) (some (([], 0, false, ()), ())) (J ()))
def VF.spec_l36Issue (k : Nat) (a0 : List TShelf × Int × List TDoc × Unit) (a1 : Int × Int × Int × List UInt8 × Int × Int × Int × Unit) : Option
 ((TBooks ×
 Int × Int × Unit) ×
 Unit) :=
 bnd (VF.spec_l36Shelf k (a0.1, a0.2.1, a0.2.2.1, ()) a1.2.2.2.1) fun (y : (Int × Unit) × Unit) =>
 sel (decide (y.1.1 < 0)) (some (((a0.1, a0.2.1, a0.2.2.1, ()), 0, 2, ()), ()))
 (grd (inb a0.1 y.1.1)
 (bnd (VF.spec_IssueLayers k (rdL a0.1 y.1.1 ([], [], [], ())).2.2.1 a1.2.2.2.2.1)
 fun (y_1 : (List TLay × Int × Bool × Unit) × Unit) =>
 sel (!y_1.1.2.2.1) (some (((a0.1, a0.2.1, a0.2.2.1, ()), 0, 2, ()), ()))
 (grd (inb a0.1 y.1.1)
 (some
 (((wrL a0.1 y.1.1
 ((rdL a0.1 y.1.1 ([], [], [], ())).1, (rdL a0.1 y.1.1 ([], [], [], ())).2.1, y_1.1.1,
 (rdL a0.1 y.1.1 ([], [], [], ())).2.2.2),
 a0.2.1, a0.2.2.1, ()),
 y_1.1.2.1, 0, ()),
 ())))))
def VF.spec_AddLate.j0 (k : Nat) (a0 : List TLay) (a1 : Int) (d : List TLay) : Option ((List TLay × Int × Bool × Unit) × Unit) :=
 bnd (VF.spec_AreLayers k d) fun (y : (Bool × Unit) × Unit) =>
 sel (!y.1.1) (some (([], 0, false, ()), ()))
 (grd (inb d a1)
 (grd (inb d a1)
 (bnd
 (VF.spec_l31Cost k
 ((rdL d a1 (0, 0, 0, ())).1, (rdL d a1 (0, 0, 0, ())).2.1, (rdL d a1 (0, 0, 0, ())).2.2.1, ())
 (rdL d a1 (0, 0, 0, ())).2.2.1)
 fun (y : (Int × Unit) × Unit) =>
 grd (inb a0 a1)
 (grd (inb a0 a1)
 (bnd
 (VF.spec_l31Cost k
 ((rdL a0 a1 (0, 0, 0, ())).1, (rdL a0 a1 (0, 0, 0, ())).2.1, (rdL a0 a1 (0, 0, 0, ())).2.2.1,
 ())
 (rdL a0 a1 (0, 0, 0, ())).2.2.1)
 fun (y_1 : (Int × Unit) × Unit) => some ((d, IntKind.wrap IntKind.i64 (y.1.1 - y_1.1.1), true, ()), ()))))))
def VF.spec_AddLate.j1 (k : Nat) (a0 : List TLay) (a1 : Int) (a2 : Int) (d : Unit) : Option ((List TLay × Int × Bool × Unit) × Unit) :=
 grd (fits (0 + List.length a0) 24)
 (join (VF.spec_AddLate.j0 k a0 a1)
 fun (J : List TLay → Option ((List TLay × Int × Bool × Unit) × Unit)) =>
 grd (inb ([] ++ a0) a1)
 (grd (inb ([] ++ a0) a1)
 (J
 (wrL ([] ++ a0) a1
 ((rdL ([] ++ a0) a1 (0, 0, 0, ())).1, IntKind.wrap IntKind.i64 ((rdL ([] ++ a0) a1 (0, 0, 0, ())).2.1 + a2),
 (rdL ([] ++ a0) a1 (0, 0, 0, ())).2.2)))))
def VF.spec_AddLate (k : Nat) (a0 : List TLay) (a1 : Int) (a2 : Int) : Option ((List TLay × Int × Bool × Unit) × Unit) :=
 join (VF.spec_AddLate.j1 k a0 a1 a2) fun (J : Unit → Option ((List TLay × Int × Bool × Unit) × Unit)) =>
 bnd (VF.spec_AreLayers k a0) fun (y : (Bool × Unit) × Unit) =>
 sel (!y.1.1) (some (([], 0, false, ()), ()))
 (bnd (VF.spec_l1In k a1 0 (IntKind.wrap IntKind.i64 ((List.length a0 : Int) - 1))) fun (y : (Bool × Unit) × Unit) =>
 sel (!y.1.1) (some (([], 0, false, ()), ()))
 (bnd (VF.spec_l1In k a2 (-1000000000) 1000000000) fun (y : (Bool × Unit) × Unit) =>
 sel (!y.1.1) (some (([], 0, false, ()), ())) (J ())))
def VF.spec_l36Book.j0 (d : (List TShelf × Int × List TDoc) ×
 (List TShelf × Int × List TDoc) × Int) : Option
 ((TBooks ×
 Int × Unit) ×
 Unit) :=
 some (((d.1.1, d.1.2.1, d.1.2.2, ()), d.2.2, ()), ())
def VF.spec_l36Book.j1 (k : Nat) (J : (List TShelf × Int × List TDoc) ×
 (List TShelf × Int × List TDoc) × Int →
 Option
 ((TBooks ×
 Int × Unit) ×
 Unit)) (d : (List TShelf × Int × List TDoc) ×
 (Int × Int × Int × List UInt8 × Int × Int × Int) ×
 (List TShelf × Int × List TDoc) × Int) : Option
 ((TBooks ×
 Int × Unit) ×
 Unit) :=
 bnd
 (VF.spec_l36Post k (d.1.1, d.1.2.1, d.1.2.2, ()) d.2.1.2.1
 [[83, 84, 79, 67, 75], [67, 79, 83, 84], [83, 85, 80, 80, 76, 89]]
 [IntKind.wrap IntKind.i64 (d.2.1.2.2.2.2.2.1 - d.2.2.2), d.2.2.2,
 IntKind.wrap IntKind.i64 (0 - d.2.1.2.2.2.2.2.1)])
 fun
 (y :
 (TBooks ×
 Int × Unit) ×
 Unit) =>
 J ((y.1.1.1, y.1.1.2.1, y.1.1.2.2.1), (d.2.2.1.1, d.2.2.1.2.1, d.2.2.1.2.2), y.1.2.1)
def VF.spec_l36Book.j2 (k : Nat) (J : (List TShelf × Int × List TDoc) ×
 (List TShelf × Int × List TDoc) × Int →
 Option
 ((TBooks ×
 Int × Unit) ×
 Unit)) (d : (List TShelf × Int × List TDoc) ×
 (Int × Int × Int × List UInt8 × Int × Int × Int) ×
 (List TShelf × Int × List TDoc) ×
 Int × Int) : Option
 ((TBooks ×
 Int × Unit) ×
 Unit) :=
 sel (decide (d.2.2.2.2 < 0)) (some (((d.1.1, d.1.2.1, d.1.2.2, ()), 4, ()), ()))
 (grd (inb d.1.1 d.2.2.2.1)
 (bnd
 (VF.spec_AddLate k (rdL d.1.1 d.2.2.2.1 ([], [], [], ())).2.2.1 d.2.2.2.2 d.2.1.2.2.2.2.2.1)
 fun (y : (List TLay × Int × Bool × Unit) × Unit) =>
 sel (!y.1.2.2.1) (some (((d.1.1, d.1.2.1, d.1.2.2, ()), 2, ()), ()))
 (join (VF.spec_l36Book.j1 k J)
 fun
 (J :
 (List TShelf ×
 Int × List TDoc) ×
 (Int × Int × Int × List UInt8 × Int × Int × Int) ×
 (List TShelf ×
 Int × List TDoc) ×
 Int →
 Option
 ((TBooks ×
 Int × Unit) ×
 Unit)) =>
 grd (inb d.1.1 d.2.2.2.1)
 (J
 ((wrL d.1.1 d.2.2.2.1
 ((rdL d.1.1 d.2.2.2.1 ([], [], [], ())).1,
 (rdL d.1.1 d.2.2.2.1 ([], [], [], ())).2.1, y.1.1,
 (rdL d.1.1 d.2.2.2.1 ([], [], [], ())).2.2.2),
 d.1.2.1, d.1.2.2),
 (d.2.1.1, d.2.1.2.1, d.2.1.2.2.1, d.2.1.2.2.2.1, d.2.1.2.2.2.2.1,
 d.2.1.2.2.2.2.2.1, d.2.1.2.2.2.2.2.2),
 (d.2.2.1.1, d.2.2.1.2.1, d.2.2.1.2.2), y.1.2.1)))))
def VF.spec_l36Book.l3 (J : (List TShelf × Int × List TDoc) ×
 (Int × Int × Int × List UInt8 × Int × Int × Int) ×
 (List TShelf × Int × List TDoc) ×
 Int × Int →
 Option
 ((TBooks ×
 Int × Unit) ×
 Unit)) (ih : (List TShelf × Int × List TDoc) ×
 (Int × Int × Int × List UInt8 × Int × Int × Int) ×
 (List TShelf × Int × List TDoc) ×
 Int × Int × Int →
 Option
 ((TBooks ×
 Int × Unit) ×
 Unit)) (d : (List TShelf × Int × List TDoc) ×
 (Int × Int × Int × List UInt8 × Int × Int × Int) ×
 (List TShelf × Int × List TDoc) ×
 Int × Int × Int) : Option
 ((TBooks ×
 Int × Unit) ×
 Unit) :=
 sel (decide (0 ≤ d.2.2.2.1))
 (grd (inb d.1.1 d.2.2.2.1)
 (sel (decide (d.2.2.2.2.2 < (List.length (rdL d.1.1 d.2.2.2.1 ([], [], [], ())).2.1 : Int)))
 (grd (inb d.1.1 d.2.2.2.1)
 (grd (inb (rdL d.1.1 d.2.2.2.1 ([], [], [], ())).2.1 d.2.2.2.2.2)
 (sel
 (decide
 (rdL (rdL d.1.1 d.2.2.2.1 ([], [], [], ())).2.1 d.2.2.2.2.2 0 = d.2.1.2.2.2.2.2.2))
 (ih
 ((d.1.1, d.1.2.1, d.1.2.2),
 (d.2.1.1, d.2.1.2.1, d.2.1.2.2.1, d.2.1.2.2.2.1, d.2.1.2.2.2.2.1,
 d.2.1.2.2.2.2.2.1, d.2.1.2.2.2.2.2.2),
 (d.2.2.1.1, d.2.2.1.2.1, d.2.2.1.2.2), d.2.2.2.1, d.2.2.2.2.2,
 IntKind.wrap IntKind.i64 (d.2.2.2.2.2 + 1)))
 (ih
 ((d.1.1, d.1.2.1, d.1.2.2),
 (d.2.1.1, d.2.1.2.1, d.2.1.2.2.1, d.2.1.2.2.2.1, d.2.1.2.2.2.2.1,
 d.2.1.2.2.2.2.2.1, d.2.1.2.2.2.2.2.2),
 (d.2.2.1.1, d.2.2.1.2.1, d.2.2.1.2.2), d.2.2.2.1, d.2.2.2.2.1,
 IntKind.wrap IntKind.i64 (d.2.2.2.2.2 + 1))))))
 (J
 ((d.1.1, d.1.2.1, d.1.2.2),
 (d.2.1.1, d.2.1.2.1, d.2.1.2.2.1, d.2.1.2.2.2.1, d.2.1.2.2.2.2.1,
 d.2.1.2.2.2.2.2.1, d.2.1.2.2.2.2.2.2),
 (d.2.2.1.1, d.2.2.1.2.1, d.2.2.1.2.2), d.2.2.2.1, d.2.2.2.2.1))))
 (J
 ((d.1.1, d.1.2.1, d.1.2.2),
 (d.2.1.1, d.2.1.2.1, d.2.1.2.2.1, d.2.1.2.2.2.1, d.2.1.2.2.2.2.1,
 d.2.1.2.2.2.2.2.1, d.2.1.2.2.2.2.2.2),
 (d.2.2.1.1, d.2.2.1.2.1, d.2.2.1.2.2), d.2.2.2.1, d.2.2.2.2.1))
def VF.spec_l36Book (k : Nat) (a0 : List TShelf × Int × List TDoc × Unit) (a1 : Int × Int × Int × List UInt8 × Int × Int × Int × Unit) : Option
 ((TBooks ×
 Int × Unit) ×
 Unit) :=
 join VF.spec_l36Book.j0
 fun
 (J :
 (List TShelf × Int × List TDoc) ×
 (List TShelf × Int × List TDoc) ×
 Int →
 Option
 ((TBooks ×
 Int × Unit) ×
 Unit)) =>
 sel (decide (a1.2.2.1 = 1))
 (bnd
 (VF.spec_l36Receive k (a0.1, a0.2.1, a0.2.2.1, ())
 (a1.1, a1.2.1, a1.2.2.1, a1.2.2.2.1, a1.2.2.2.2.1, a1.2.2.2.2.2.1, a1.2.2.2.2.2.2.1,
 ()))
 fun
 (y :
 (TBooks ×
 Int × Unit) ×
 Unit) =>
 sel (decide (y.1.2.1 = 0))
 (bnd
 (VF.spec_l36Post k (y.1.1.1, y.1.1.2.1, y.1.1.2.2.1, ()) a1.2.1
 [[83, 84, 79, 67, 75], [83, 85, 80, 80, 76, 89]] [a1.2.2.2.2.2.1, IntKind.wrap IntKind.i64 (0 - a1.2.2.2.2.2.1)])
 fun
 (y :
 (TBooks ×
 Int × Unit) ×
 Unit) =>
 J ((y.1.1.1, y.1.1.2.1, y.1.1.2.2.1), ([], 0, []), y.1.2.1))
 (J ((y.1.1.1, y.1.1.2.1, y.1.1.2.2.1), ([], 0, []), y.1.2.1)))
 (sel (decide (a1.2.2.1 = 3))
 (sel (decide (a0.2.1 < a1.2.2.2.2.2.1)) (some (((a0.1, a0.2.1, a0.2.2.1, ()), 2, ()), ()))
 (bnd
 (VF.spec_l36Receive k (a0.1, a0.2.1, a0.2.2.1, ())
 (a1.1, a1.2.1, a1.2.2.1, a1.2.2.2.1, a1.2.2.2.2.1, a1.2.2.2.2.2.1,
 a1.2.2.2.2.2.2.1, ()))
 fun
 (y :
 (TBooks ×
 Int × Unit) ×
 Unit) =>
 sel (decide (y.1.2.1 = 0))
 (bnd
 (VF.spec_l36Post k
 (y.1.1.1, IntKind.wrap IntKind.i64 (y.1.1.2.1 - a1.2.2.2.2.2.1), y.1.1.2.2.1, ())
 a1.2.1 [[83, 84, 79, 67, 75], [87, 79, 82, 75]]
 [a1.2.2.2.2.2.1, IntKind.wrap IntKind.i64 (0 - a1.2.2.2.2.2.1)])
 fun
 (y :
 (TBooks ×
 Int × Unit) ×
 Unit) =>
 J ((y.1.1.1, y.1.1.2.1, y.1.1.2.2.1), ([], 0, []), y.1.2.1))
 (J ((y.1.1.1, y.1.1.2.1, y.1.1.2.2.1), ([], 0, []), y.1.2.1))))
 (sel (decide (a1.2.2.1 = 2))
 (bnd
 (VF.spec_l36Issue k (a0.1, a0.2.1, a0.2.2.1, ())
 (a1.1, a1.2.1, a1.2.2.1, a1.2.2.2.1, a1.2.2.2.2.1, a1.2.2.2.2.2.1,
 a1.2.2.2.2.2.2.1, ()))
 fun
 (y :
 (TBooks ×
 Int × Int × Unit) ×
 Unit) =>
 sel (decide (y.1.2.2.1 = 0))
 (bnd
 (VF.spec_l36Post k (y.1.1.1, IntKind.wrap IntKind.i64 (y.1.1.2.1 + y.1.2.1), y.1.1.2.2.1, ())
 a1.2.1 [[87, 79, 82, 75], [83, 84, 79, 67, 75]] [y.1.2.1, IntKind.wrap IntKind.i64 (0 - y.1.2.1)])
 fun
 (y :
 (TBooks ×
 Int × Unit) ×
 Unit) =>
 sel (decide (y.1.2.1 = 0))
 (sel (decide (1000000000 < y.1.1.2.1))
 (some (((y.1.1.1, y.1.1.2.1, y.1.1.2.2.1, ()), 3, ()), ()))
 (J ((y.1.1.1, y.1.1.2.1, y.1.1.2.2.1), ([], 0, []), y.1.2.1)))
 (J ((y.1.1.1, y.1.1.2.1, y.1.1.2.2.1), ([], 0, []), y.1.2.1)))
 (sel (decide (y.1.2.2.1 = 0))
 (sel (decide (1000000000 < y.1.1.2.1))
 (some (((y.1.1.1, y.1.1.2.1, y.1.1.2.2.1, ()), 3, ()), ()))
 (J ((y.1.1.1, y.1.1.2.1, y.1.1.2.2.1), ([], 0, []), y.1.2.2.1)))
 (J ((y.1.1.1, y.1.1.2.1, y.1.1.2.2.1), ([], 0, []), y.1.2.2.1))))
 (sel (decide (a1.2.2.1 = 4))
 (bnd
 (VF.spec_l36Issue k (a0.1, a0.2.1, a0.2.2.1, ())
 (a1.1, a1.2.1, a1.2.2.1, a1.2.2.2.1, a1.2.2.2.2.1, a1.2.2.2.2.2.1,
 a1.2.2.2.2.2.2.1, ()))
 fun
 (y :
 (TBooks ×
 Int × Int × Unit) ×
 Unit) =>
 sel (decide (y.1.2.2.1 = 0))
 (bnd
 (VF.spec_l36Post k (y.1.1.1, y.1.1.2.1, y.1.1.2.2.1, ()) a1.2.1
 [[67, 65, 83, 72], [83, 65, 76, 69, 83], [67, 79, 83, 84], [83, 84, 79, 67, 75]]
 [a1.2.2.2.2.2.1, IntKind.wrap IntKind.i64 (0 - a1.2.2.2.2.2.1), y.1.2.1,
 IntKind.wrap IntKind.i64 (0 - y.1.2.1)])
 fun
 (y :
 (TBooks ×
 Int × Unit) ×
 Unit) =>
 J ((y.1.1.1, y.1.1.2.1, y.1.1.2.2.1), ([], 0, []), y.1.2.1))
 (J ((y.1.1.1, y.1.1.2.1, y.1.1.2.2.1), ([], 0, []), y.1.2.2.1)))
 (bnd (VF.spec_l36Shelf k (a0.1, a0.2.1, a0.2.2.1, ()) a1.2.2.2.1) fun (y : (Int × Unit) × Unit) =>
 join (VF.spec_l36Book.j2 k J)
 fun
 (J :
 (List TShelf ×
 Int × List TDoc) ×
 (Int × Int × Int × List UInt8 × Int × Int × Int) ×
 (List TShelf ×
 Int × List TDoc) ×
 Int × Int →
 Option
 ((TBooks ×
 Int × Unit) ×
 Unit)) =>
 iter (VF.spec_l36Book.l3 J) k
 ((a0.1, a0.2.1, a0.2.2.1),
 (a1.1, a1.2.1, a1.2.2.1, a1.2.2.2.1, a1.2.2.2.2.1, a1.2.2.2.2.2.1,
 a1.2.2.2.2.2.2.1),
 ([], 0, []), y.1.1, -1, 0)))))
def VF.spec_BookEvent.j0 (k : Nat) (d : (List TShelf × Int × List TDoc) ×
 (Int × Int × Int × List UInt8 × Int × Int × Int) ×
 List TShelf × Int × List TDoc) : Option
 ((TBooks ×
 Int × Unit) ×
 Unit) :=
 bnd (VF.spec_l36Copy k (d.1.1, d.1.2.1, d.1.2.2, ()))
 fun
 (y :
 (TBooks ×
 Unit) ×
 Unit) =>
 bnd
 (VF.spec_l36Book k (y.1.1.1, y.1.1.2.1, y.1.1.2.2.1, ())
 (d.2.1.1, d.2.1.2.1, d.2.1.2.2.1, d.2.1.2.2.2.1, d.2.1.2.2.2.2.1,
 d.2.1.2.2.2.2.2.1, d.2.1.2.2.2.2.2.2, ()))
 fun
 (y :
 (TBooks ×
 Int × Unit) ×
 Unit) =>
 sel (!decide (y.1.2.1 = 0))
 (bnd (VF.spec_l36Copy k (d.1.1, d.1.2.1, d.1.2.2, ()))
 fun
 (y_1 :
 (TBooks ×
 Unit) ×
 Unit) =>
 some (((y_1.1.1.1, y_1.1.1.2.1, y_1.1.1.2.2.1, ()), y.1.2.1, ()), ()))
 (some (((y.1.1.1, y.1.1.2.1, y.1.1.2.2.1, ()), 0, ()), ()))
def VF.spec_BookEvent (k : Nat) (a0 : List TShelf × Int × List TDoc × Unit) (a1 : Int × Int × Int × List UInt8 × Int × Int × Int × Unit) : Option
 ((TBooks ×
 Int × Unit) ×
 Unit) :=
 join (VF.spec_BookEvent.j0 k)
 fun
 (J :
 (List TShelf × Int × List TDoc) ×
 (Int × Int × Int × List UInt8 × Int × Int × Int) ×
 List TShelf × Int × List TDoc →
 Option
 ((TBooks ×
 Int × Unit) ×
 Unit)) =>
 bnd (VF.spec_AreBooks k (a0.1, a0.2.1, a0.2.2.1, ())) fun (y : (Bool × Unit) × Unit) =>
 sel (!y.1.1)
 (bnd (VF.spec_l36Copy k (a0.1, a0.2.1, a0.2.2.1, ()))
 fun
 (y :
 (TBooks ×
 Unit) ×
 Unit) =>
 some (((y.1.1.1, y.1.1.2.1, y.1.1.2.2.1, ()), 1, ()), ()))
 (bnd
 (VF.spec_IsEvent k
 (a1.1, a1.2.1, a1.2.2.1, a1.2.2.2.1, a1.2.2.2.2.1, a1.2.2.2.2.2.1, a1.2.2.2.2.2.2.1,
 ()))
 fun (y : (Bool × Unit) × Unit) =>
 sel (!y.1.1)
 (bnd (VF.spec_l36Copy k (a0.1, a0.2.1, a0.2.2.1, ()))
 fun
 (y :
 (TBooks ×
 Unit) ×
 Unit) =>
 some (((y.1.1.1, y.1.1.2.1, y.1.1.2.2.1, ()), 1, ()), ()))
 (J
 ((a0.1, a0.2.1, a0.2.2.1),
 (a1.1, a1.2.1, a1.2.2.1, a1.2.2.2.1, a1.2.2.2.2.1, a1.2.2.2.2.2.1,
 a1.2.2.2.2.2.2.1),
 [], 0, [])))
def VF.spec_BooksOf.j0 (d : (List TShelf × Int × List TDoc) ×
 (List TShelf × Int × List TDoc) ×
 List Int) : Option
 ((TBooks ×
 List Int × Unit) ×
 Unit) :=
 some (((d.2.1.1, d.2.1.2.1, d.2.1.2.2, ()), d.2.2, ()), ())
def VF.spec_BooksOf.l1 (k : Nat) (J : (List TShelf × Int × List TDoc) ×
 (List TShelf × Int × List TDoc) ×
 List Int →
 Option
 ((TBooks ×
 List Int × Unit) ×
 Unit)) (ih : (List TShelf × Int × List TDoc) ×
 (List TShelf × Int × List TDoc) ×
 List Int × List TEv × Int →
 Option
 ((TBooks ×
 List Int × Unit) ×
 Unit)) (d : (List TShelf × Int × List TDoc) ×
 (List TShelf × Int × List TDoc) ×
 List Int × List TEv × Int) : Option
 ((TBooks ×
 List Int × Unit) ×
 Unit) :=
 sel (decide (d.2.2.2.2 < (List.length d.2.2.2.1 : Int)))
 (grd (inb d.2.2.2.1 d.2.2.2.2)
 (bnd
 (VF.spec_BookEvent k (d.2.1.1, d.2.1.2.1, d.2.1.2.2, ())
 ((rdL d.2.2.2.1 d.2.2.2.2 (0, 0, 0, [], 0, 0, 0, ())).1,
 (rdL d.2.2.2.1 d.2.2.2.2 (0, 0, 0, [], 0, 0, 0, ())).2.1,
 (rdL d.2.2.2.1 d.2.2.2.2 (0, 0, 0, [], 0, 0, 0, ())).2.2.1,
 (rdL d.2.2.2.1 d.2.2.2.2 (0, 0, 0, [], 0, 0, 0, ())).2.2.2.1,
 (rdL d.2.2.2.1 d.2.2.2.2 (0, 0, 0, [], 0, 0, 0, ())).2.2.2.2.1,
 (rdL d.2.2.2.1 d.2.2.2.2 (0, 0, 0, [], 0, 0, 0, ())).2.2.2.2.2.1,
 (rdL d.2.2.2.1 d.2.2.2.2 (0, 0, 0, [], 0, 0, 0, ())).2.2.2.2.2.2.1, ()))
 fun
 (y :
 (TBooks ×
 Int × Unit) ×
 Unit) =>
 sel (decide (y.1.2.1 = 0))
 (ih
 ((d.1.1, d.1.2.1, d.1.2.2), (y.1.1.1, y.1.1.2.1, y.1.1.2.2.1), d.2.2.1, d.2.2.2.1,
 IntKind.wrap IntKind.i64 (d.2.2.2.2 + 1)))
 (grd (inb d.2.2.2.1 d.2.2.2.2)
 (grd (fits (List.length d.2.2.1 + 1) 8)
 (ih
 ((d.1.1, d.1.2.1, d.1.2.2), (d.2.1.1, d.2.1.2.1, d.2.1.2.2),
 d.2.2.1 ++ [(rdL d.2.2.2.1 d.2.2.2.2 (0, 0, 0, [], 0, 0, 0, ())).1], d.2.2.2.1,
 IntKind.wrap IntKind.i64 (d.2.2.2.2 + 1)))))))
 (J ((d.1.1, d.1.2.1, d.1.2.2), (d.2.1.1, d.2.1.2.1, d.2.1.2.2), d.2.2.1))
def VF.spec_BooksOf (k : Nat) (a0 : List TEv) : Option
 ((TBooks ×
 List Int × Unit) ×
 Unit) :=
 bnd (VF.spec_SortEvents k a0) fun (y : (List TEv × Unit) × Unit) =>
 join VF.spec_BooksOf.j0
 fun
 (J :
 (List TShelf × Int × List TDoc) ×
 (List TShelf ×
 Int × List TDoc) ×
 List Int →
 Option
 ((TBooks ×
 List Int × Unit) ×
 Unit)) =>
 iter (VF.spec_BooksOf.l1 k J) k (([], 0, []), ([], 0, []), [], y.1.1, 0)
def VF.spec_l36Event.j0 (k : Nat) (d : (List Int × Int × Int) × (Int × Int × Int × List UInt8 × Int × Int × Int) × Int × Int × Int × List UInt8 × Int × Int × Int) : Option ((TEv × Unit) × TCur × Unit) :=
 bnd (VF.spec_l1Below k (d.1.1, d.1.2.1, d.1.2.2, ()) 40) fun (y : (Int × Unit) × TCur × Unit) =>
 sel (decide (y.1.1 = 0))
 (bnd (VF.spec_l1Odd k (y.2.1.1, y.2.1.2.1, y.2.1.2.2.1, ()))
 fun (y : (Int × Unit) × TCur × Unit) =>
 some
 (((d.2.2.1, d.2.2.2.1, d.2.2.2.2.1, d.2.2.2.2.2.1, y.1.1, d.2.2.2.2.2.2.2.1,
 d.2.2.2.2.2.2.2.2, ()),
 ()),
 (y.2.1.1, y.2.1.2.1, y.2.1.2.2.1, ()), ()))
 (sel (decide (y.1.1 = 1))
 (bnd (VF.spec_l1Odd k (y.2.1.1, y.2.1.2.1, y.2.1.2.2.1, ()))
 fun (y : (Int × Unit) × TCur × Unit) =>
 some
 (((d.2.2.1, d.2.2.2.1, d.2.2.2.2.1, d.2.2.2.2.2.1, d.2.2.2.2.2.2.1, y.1.1,
 d.2.2.2.2.2.2.2.2, ()),
 ()),
 (y.2.1.1, y.2.1.2.1, y.2.1.2.2.1, ()), ()))
 (sel (decide (y.1.1 = 2))
 (bnd (VF.spec_l1PickInt k (y.2.1.1, y.2.1.2.1, y.2.1.2.2.1, ()) [0, 6, -1])
 fun (y : (Int × Unit) × TCur × Unit) =>
 some
 (((d.2.2.1, d.2.2.2.1, y.1.1, d.2.2.2.2.2.1, d.2.2.2.2.2.2.1,
 d.2.2.2.2.2.2.2.1, d.2.2.2.2.2.2.2.2, ()),
 ()),
 (y.2.1.1, y.2.1.2.1, y.2.1.2.2.1, ()), ()))
 (sel (decide (y.1.1 = 3))
 (bnd (VF.spec_l4Day k (y.2.1.1, y.2.1.2.1, y.2.1.2.2.1, ()))
 fun (y : (Int × Unit) × TCur × Unit) =>
 some
 (((d.2.2.1, y.1.1, d.2.2.2.2.1, d.2.2.2.2.2.1, d.2.2.2.2.2.2.1,
 d.2.2.2.2.2.2.2.1, d.2.2.2.2.2.2.2.2, ()),
 ()),
 (y.2.1.1, y.2.1.2.1, y.2.1.2.2.1, ()), ()))
 (some
 (((d.2.2.1, d.2.2.2.1, d.2.2.2.2.1, d.2.2.2.2.2.1, d.2.2.2.2.2.2.1,
 d.2.2.2.2.2.2.2.1, d.2.2.2.2.2.2.2.2, ()),
 ()),
 (y.2.1.1, y.2.1.2.1, y.2.1.2.2.1, ()), ())))))
def VF.spec_l36Event (k : Nat) (a0 : List Int × Int × Int × Unit) (a1 : Int) : Option ((TEv × Unit) × TCur × Unit) :=
 bnd (VF.spec_l1Below k (a0.1, a0.2.1, a0.2.2.1, ()) 12) fun (y : (Int × Unit) × TCur × Unit) =>
 bnd (VF.spec_l1Below k (y.2.1.1, y.2.1.2.1, y.2.1.2.2.1, ()) 5)
 fun (y_1 : (Int × Unit) × TCur × Unit) =>
 bnd (VF.spec_l1Pick k (y_1.2.1.1, y_1.2.1.2.1, y_1.2.1.2.2.1, ()) [[65], [65], [66]])
 fun (y_2 : (List UInt8 × Unit) × TCur × Unit) =>
 bnd (VF.spec_l1Below k (y_2.2.1.1, y_2.2.1.2.1, y_2.2.1.2.2.1, ()) 9)
 fun (y_3 : (Int × Unit) × TCur × Unit) =>
 bnd (VF.spec_l1Below k (y_3.2.1.1, y_3.2.1.2.1, y_3.2.1.2.2.1, ()) 90)
 fun (y_4 : (Int × Unit) × TCur × Unit) =>
 join (VF.spec_l36Event.j0 k)
 fun
 (J :
 (List Int × Int × Int) × (Int × Int × Int × List UInt8 × Int × Int × Int) × Int × Int × Int × List UInt8 × Int × Int × Int →
 Option ((TEv × Unit) × TCur × Unit)) =>
 sel (decide (IntKind.wrap IntKind.i64 (1 + y_1.1.1) = 2))
 (J
 ((y_4.2.1.1, y_4.2.1.2.1, y_4.2.1.2.2.1), (0, 0, 0, [], 0, 0, 0), a1, y.1.1,
 IntKind.wrap IntKind.i64 (1 + y_1.1.1), y_2.1.1, IntKind.wrap IntKind.i64 (1 + y_3.1.1), 0, 0))
 (sel (decide (IntKind.wrap IntKind.i64 (1 + y_1.1.1) = 5))
 (bnd (VF.spec_l1Below k (y_4.2.1.1, y_4.2.1.2.1, y_4.2.1.2.2.1, ()) 6)
 fun (y_5 : (Int × Unit) × TCur × Unit) =>
 bnd (VF.spec_l1Below k (y_5.2.1.1, y_5.2.1.2.1, y_5.2.1.2.2.1, ()) 60)
 fun (y_6 : (Int × Unit) × TCur × Unit) =>
 J
 ((y_6.2.1.1, y_6.2.1.2.1, y_6.2.1.2.2.1), (0, 0, 0, [], 0, 0, 0), a1, y.1.1,
 IntKind.wrap IntKind.i64 (1 + y_1.1.1), y_2.1.1, 0, IntKind.wrap IntKind.i64 (y_6.1.1 - 20),
 IntKind.wrap IntKind.i64 (1 + y_5.1.1)))
 (sel (decide (IntKind.wrap IntKind.i64 (1 + y_1.1.1) = 3))
 (bnd (VF.spec_l1Below k (y_4.2.1.1, y_4.2.1.2.1, y_4.2.1.2.2.1, ()) 12)
 fun (y_5 : (Int × Unit) × TCur × Unit) =>
 J
 ((y_5.2.1.1, y_5.2.1.2.1, y_5.2.1.2.2.1), (0, 0, 0, [], 0, 0, 0), a1, y.1.1,
 IntKind.wrap IntKind.i64 (1 + y_1.1.1), y_2.1.1, IntKind.wrap IntKind.i64 (1 + y_3.1.1),
 IntKind.wrap IntKind.i64 (1 + y_5.1.1), 0))
 (J
 ((y_4.2.1.1, y_4.2.1.2.1, y_4.2.1.2.2.1), (0, 0, 0, [], 0, 0, 0), a1, y.1.1,
 IntKind.wrap IntKind.i64 (1 + y_1.1.1), y_2.1.1, IntKind.wrap IntKind.i64 (1 + y_3.1.1),
 IntKind.wrap IntKind.i64 (1 + y_4.1.1), 0))))
def VF.spec_l36Events.j0 (d : (List Int × Int × Int) × List TEv) : Option ((List TEv × Unit) × TCur × Unit) :=
 some ((d.2, ()), (d.1.1, d.1.2.1, d.1.2.2, ()), ())
def VF.spec_l36Events.j1 (k : Nat) (ih : (List Int × Int × Int) × List TEv × Int →
 Option ((List TEv × Unit) × TCur × Unit)) (d : (List Int × Int × Int) × List TEv × Int × (Int × Int × Int × List UInt8 × Int × Int × Int) × Bool) : Option ((List TEv × Unit) × TCur × Unit) :=
 sel d.2.2.2.2
 (bnd (VF.spec_l1Below k (d.1.1, d.1.2.1, d.1.2.2, ()) 3) fun (y : (Int × Unit) × TCur × Unit) =>
 bnd (VF.spec_l1Pick k (y.2.1.1, y.2.1.2.1, y.2.1.2.2.1, ()) [[65], [66]])
 fun (y_1 : (List UInt8 × Unit) × TCur × Unit) =>
 bnd (VF.spec_l1Below k (y_1.2.1.1, y_1.2.1.2.1, y_1.2.1.2.2.1, ()) 20)
 fun (y_2 : (Int × Unit) × TCur × Unit) =>
 bnd (VF.spec_l1Below k (y_2.2.1.1, y_2.2.1.2.1, y_2.2.1.2.2.1, ()) 300)
 fun (y_3 : (Int × Unit) × TCur × Unit) =>
 grd (fits (List.length d.2.1 + 1) 64)
 (ih
 ((y_3.2.1.1, y_3.2.1.2.1, y_3.2.1.2.2.1),
 d.2.1 ++
 [(IntKind.wrap IntKind.i64 (1 + (List.length d.2.1 : Int)), y.1.1, 1, y_1.1.1, IntKind.wrap IntKind.i64 (5 + y_2.1.1),
 IntKind.wrap IntKind.i64 (1 + y_3.1.1), 0, ())],
 IntKind.wrap IntKind.i64 (d.2.2.1 - 1))))
 (grd (fits (List.length d.2.1 + 1) 64)
 (ih
 ((d.1.1, d.1.2.1, d.1.2.2),
 d.2.1 ++
 [(d.2.2.2.1.1, d.2.2.2.1.2.1, d.2.2.2.1.2.2.1, d.2.2.2.1.2.2.2.1,
 d.2.2.2.1.2.2.2.2.1, d.2.2.2.1.2.2.2.2.2.1, d.2.2.2.1.2.2.2.2.2.2,
 ())],
 IntKind.wrap IntKind.i64 (d.2.2.1 - 1))))
def VF.spec_l36Events.l2 (k : Nat) (J : (List Int × Int × Int) × List TEv →
 Option ((List TEv × Unit) × TCur × Unit)) (ih : (List Int × Int × Int) × List TEv × Int →
 Option ((List TEv × Unit) × TCur × Unit)) (d : (List Int × Int × Int) × List TEv × Int) : Option ((List TEv × Unit) × TCur × Unit) :=
 sel (decide (0 < d.2.2))
 (bnd (VF.spec_l36Event k (d.1.1, d.1.2.1, d.1.2.2, ()) (IntKind.wrap IntKind.i64 (1 + (List.length d.2.1 : Int))))
 fun (y : (TEv × Unit) × TCur × Unit) =>
 join (VF.spec_l36Events.j1 k ih)
 fun
 (J :
 (List Int × Int × Int) ×
 List TEv × Int × (Int × Int × Int × List UInt8 × Int × Int × Int) × Bool →
 Option ((List TEv × Unit) × TCur × Unit)) =>
 sel (decide ((List.length d.2.1 : Int) < 2))
 (bnd (VF.spec_l1Once k (y.2.1.1, y.2.1.2.1, y.2.1.2.2.1, ()) 5)
 fun (y_1 : (Bool × Unit) × TCur × Unit) =>
 J
 ((y_1.2.1.1, y_1.2.1.2.1, y_1.2.1.2.2.1), d.2.1, d.2.2,
 (y.1.1.1, y.1.1.2.1, y.1.1.2.2.1, y.1.1.2.2.2.1, y.1.1.2.2.2.2.1,
 y.1.1.2.2.2.2.2.1, y.1.1.2.2.2.2.2.2.1),
 !y_1.1.1))
 (J
 ((y.2.1.1, y.2.1.2.1, y.2.1.2.2.1), d.2.1, d.2.2,
 (y.1.1.1, y.1.1.2.1, y.1.1.2.2.1, y.1.1.2.2.2.1, y.1.1.2.2.2.2.1,
 y.1.1.2.2.2.2.2.1, y.1.1.2.2.2.2.2.2.1),
 false)))
 (J ((d.1.1, d.1.2.1, d.1.2.2), d.2.1))
def VF.spec_l36Events (k : Nat) (a0 : List Int × Int × Int × Unit) : Option ((List TEv × Unit) × TCur × Unit) :=
 join VF.spec_l36Events.j0
 fun
 (J :
 (List Int × Int × Int) × List TEv →
 Option ((List TEv × Unit) × TCur × Unit)) =>
 bnd (VF.spec_l1Below k (a0.1, a0.2.1, a0.2.2.1, ()) 9) fun (y : (Int × Unit) × TCur × Unit) =>
 iter (VF.spec_l36Events.l2 k J) k ((y.2.1.1, y.2.1.2.1, y.2.1.2.2.1), [], y.1.1)
def VF.spec_l37Events.j0 (d : (List Int × Int × Int) × List TEv) : Option ((List TEv × Unit) × TCur × Unit) :=
 some ((d.2, ()), (d.1.1, d.1.2.1, d.1.2.2, ()), ())
def VF.spec_l37Events.j1 (k : Nat) (ih : (List Int × Int × Int) ×
 List TEv × List TEv × Int →
 Option ((List TEv × Unit) × TCur × Unit)) (d : (List Int × Int × Int) ×
 List TEv × List TEv × Int) : Option ((List TEv × Unit) × TCur × Unit) :=
 bnd (VF.spec_l1Once k (d.1.1, d.1.2.1, d.1.2.2, ()) 16) fun (y : (Bool × Unit) × TCur × Unit) =>
 sel y.1.1
 (bnd (VF.spec_l1Below k (y.2.1.1, y.2.1.2.1, y.2.1.2.2.1, ()) (IntKind.wrap IntKind.i64 (d.2.2.2 + 1)))
 fun (y : (Int × Unit) × TCur × Unit) =>
 grd (inb d.2.1 y.1.1)
 (grd (fits (List.length d.2.2.1 + 1) 64)
 (ih
 ((y.2.1.1, y.2.1.2.1, y.2.1.2.2.1), d.2.1,
 d.2.2.1 ++
 [((rdL d.2.1 y.1.1 (0, 0, 0, [], 0, 0, 0, ())).1,
 (rdL d.2.1 y.1.1 (0, 0, 0, [], 0, 0, 0, ())).2.1,
 (rdL d.2.1 y.1.1 (0, 0, 0, [], 0, 0, 0, ())).2.2.1,
 (rdL d.2.1 y.1.1 (0, 0, 0, [], 0, 0, 0, ())).2.2.2.1,
 (rdL d.2.1 y.1.1 (0, 0, 0, [], 0, 0, 0, ())).2.2.2.2.1,
 IntKind.wrap IntKind.i64 ((rdL d.2.1 y.1.1 (0, 0, 0, [], 0, 0, 0, ())).2.2.2.2.2.1 + 1),
 (rdL d.2.1 y.1.1 (0, 0, 0, [], 0, 0, 0, ())).2.2.2.2.2.2.1, ())],
 IntKind.wrap IntKind.i64 (d.2.2.2 + 1)))))
 (ih ((y.2.1.1, y.2.1.2.1, y.2.1.2.2.1), d.2.1, d.2.2.1, IntKind.wrap IntKind.i64 (d.2.2.2 + 1)))
def VF.spec_l37Events.l2 (k : Nat) (J : (List Int × Int × Int) × List TEv →
 Option ((List TEv × Unit) × TCur × Unit)) (ih : (List Int × Int × Int) ×
 List TEv × List TEv × Int →
 Option ((List TEv × Unit) × TCur × Unit)) (d : (List Int × Int × Int) ×
 List TEv × List TEv × Int) : Option ((List TEv × Unit) × TCur × Unit) :=
 sel (decide (d.2.2.2 < (List.length d.2.1 : Int)))
 (bnd (VF.spec_l1Below k (d.1.1, d.1.2.1, d.1.2.2, ()) (IntKind.wrap IntKind.i64 ((List.length d.2.2.1 : Int) + 1)))
 fun (y : (Int × Unit) × TCur × Unit) =>
 grd (decide (0 ≤ 0) && decide (0 ≤ y.1.1) && decide (y.1.1 ≤ (List.length d.2.2.1 : Int)))
 (grd (fits (0 + List.length (subL d.2.2.1 0 y.1.1)) 64)
 (grd (inb d.2.1 d.2.2.2)
 (grd (fits (List.length ([] ++ subL d.2.2.1 0 y.1.1) + 1) 64)
 (grd
 (decide (0 ≤ y.1.1) && decide (y.1.1 ≤ (List.length d.2.2.1 : Int)) &&
 decide ((List.length d.2.2.1 : Int) ≤ (List.length d.2.2.1 : Int)))
 (grd
 (fits
 (List.length
 ([] ++ subL d.2.2.1 0 y.1.1 ++
 [((rdL d.2.1 d.2.2.2 (0, 0, 0, [], 0, 0, 0, ())).1,
 (rdL d.2.1 d.2.2.2 (0, 0, 0, [], 0, 0, 0, ())).2.1,
 (rdL d.2.1 d.2.2.2 (0, 0, 0, [], 0, 0, 0, ())).2.2.1,
 (rdL d.2.1 d.2.2.2 (0, 0, 0, [], 0, 0, 0, ())).2.2.2.1,
 (rdL d.2.1 d.2.2.2 (0, 0, 0, [], 0, 0, 0, ())).2.2.2.2.1,
 (rdL d.2.1 d.2.2.2 (0, 0, 0, [], 0, 0, 0, ())).2.2.2.2.2.1,
 (rdL d.2.1 d.2.2.2 (0, 0, 0, [], 0, 0, 0, ())).2.2.2.2.2.2.1, ())]) +
 List.length (subL d.2.2.1 y.1.1 (List.length d.2.2.1 : Int)))
 64)
 (join (VF.spec_l37Events.j1 k ih)
 fun
 (J :
 (List Int × Int × Int) ×
 List TEv ×
 List TEv × Int →
 Option ((List TEv × Unit) × TCur × Unit)) =>
 bnd (VF.spec_l1Once k (y.2.1.1, y.2.1.2.1, y.2.1.2.2.1, ()) 6)
 fun (y_1 : (Bool × Unit) × TCur × Unit) =>
 sel y_1.1.1
 (bnd
 (VF.spec_l1Below k (y_1.2.1.1, y_1.2.1.2.1, y_1.2.1.2.2.1, ())
 (IntKind.wrap IntKind.i64 (d.2.2.2 + 1)))
 fun (y_2 : (Int × Unit) × TCur × Unit) =>
 grd (inb d.2.1 y_2.1.1)
 (grd
 (fits
 (List.length
 ([] ++ subL d.2.2.1 0 y.1.1 ++
 [((rdL d.2.1 d.2.2.2 (0, 0, 0, [], 0, 0, 0, ())).1,
 (rdL d.2.1 d.2.2.2 (0, 0, 0, [], 0, 0, 0, ())).2.1,
 (rdL d.2.1 d.2.2.2 (0, 0, 0, [], 0, 0, 0, ())).2.2.1,
 (rdL d.2.1 d.2.2.2 (0, 0, 0, [], 0, 0, 0, ())).2.2.2.1,
 (rdL d.2.1 d.2.2.2 (0, 0, 0, [], 0, 0, 0, ())).2.2.2.2.1,
 (rdL d.2.1 d.2.2.2 (0, 0, 0, [], 0, 0, 0, ())).2.2.2.2.2.1,
 (rdL d.2.1 d.2.2.2 (0, 0, 0, [], 0, 0, 0, ())).2.2.2.2.2.2.1,
 ())] ++
 subL d.2.2.1 y.1.1 (List.length d.2.2.1 : Int)) +
 1)
 64)
 (J
 ((y_2.2.1.1, y_2.2.1.2.1, y_2.2.1.2.2.1), d.2.1,
 [] ++ subL d.2.2.1 0 y.1.1 ++
 [((rdL d.2.1 d.2.2.2 (0, 0, 0, [], 0, 0, 0, ())).1,
 (rdL d.2.1 d.2.2.2 (0, 0, 0, [], 0, 0, 0, ())).2.1,
 (rdL d.2.1 d.2.2.2 (0, 0, 0, [], 0, 0, 0, ())).2.2.1,
 (rdL d.2.1 d.2.2.2 (0, 0, 0, [], 0, 0, 0, ())).2.2.2.1,
 (rdL d.2.1 d.2.2.2 (0, 0, 0, [], 0, 0, 0, ())).2.2.2.2.1,
 (rdL d.2.1 d.2.2.2 (0, 0, 0, [], 0, 0, 0, ())).2.2.2.2.2.1,
 (rdL d.2.1 d.2.2.2 (0, 0, 0, [], 0, 0, 0, ())).2.2.2.2.2.2.1,
 ())] ++
 subL d.2.2.1 y.1.1 (List.length d.2.2.1 : Int) ++
 [((rdL d.2.1 y_2.1.1 (0, 0, 0, [], 0, 0, 0, ())).1,
 (rdL d.2.1 y_2.1.1 (0, 0, 0, [], 0, 0, 0, ())).2.1,
 (rdL d.2.1 y_2.1.1 (0, 0, 0, [], 0, 0, 0, ())).2.2.1,
 (rdL d.2.1 y_2.1.1 (0, 0, 0, [], 0, 0, 0, ())).2.2.2.1,
 (rdL d.2.1 y_2.1.1 (0, 0, 0, [], 0, 0, 0, ())).2.2.2.2.1,
 (rdL d.2.1 y_2.1.1 (0, 0, 0, [], 0, 0, 0, ())).2.2.2.2.2.1,
 (rdL d.2.1 y_2.1.1 (0, 0, 0, [], 0, 0, 0, ())).2.2.2.2.2.2.1, ())],
 d.2.2.2))))
 (J
 ((y_1.2.1.1, y_1.2.1.2.1, y_1.2.1.2.2.1), d.2.1,
 [] ++ subL d.2.2.1 0 y.1.1 ++
 [((rdL d.2.1 d.2.2.2 (0, 0, 0, [], 0, 0, 0, ())).1,
 (rdL d.2.1 d.2.2.2 (0, 0, 0, [], 0, 0, 0, ())).2.1,
 (rdL d.2.1 d.2.2.2 (0, 0, 0, [], 0, 0, 0, ())).2.2.1,
 (rdL d.2.1 d.2.2.2 (0, 0, 0, [], 0, 0, 0, ())).2.2.2.1,
 (rdL d.2.1 d.2.2.2 (0, 0, 0, [], 0, 0, 0, ())).2.2.2.2.1,
 (rdL d.2.1 d.2.2.2 (0, 0, 0, [], 0, 0, 0, ())).2.2.2.2.2.1,
 (rdL d.2.1 d.2.2.2 (0, 0, 0, [], 0, 0, 0, ())).2.2.2.2.2.2.1, ())] ++
 subL d.2.2.1 y.1.1 (List.length d.2.2.1 : Int),
 d.2.2.2)))))))))
 (J ((d.1.1, d.1.2.1, d.1.2.2), d.2.2.1))
def VF.spec_l37Events (k : Nat) (a0 : List Int × Int × Int × Unit) : Option ((List TEv × Unit) × TCur × Unit) :=
 bnd (VF.spec_l36Events k (a0.1, a0.2.1, a0.2.2.1, ()))
 fun (y : (List TEv × Unit) × TCur × Unit) =>
 join VF.spec_l37Events.j0
 fun
 (J :
 (List Int × Int × Int) × List TEv →
 Option ((List TEv × Unit) × TCur × Unit)) =>
 iter (VF.spec_l37Events.l2 k J) k ((y.2.1.1, y.2.1.2.1, y.2.1.2.2.1), y.1.1, [], 0)
def VF.spec_DrawBooksOf (k : Nat) (a0 : List Int) : Option ((List TEv × Unit) × Unit) :=
 bnd (VF.spec_l1New k a0) fun (y : (TCur × Unit) × Unit) =>
 bnd (VF.spec_l37Events k (y.1.1.1, y.1.1.2.1, y.1.1.2.2.1, ()))
 fun (y : (List TEv × Unit) × TCur × Unit) =>
 some ((y.1.1, ()), ())
def VF.impl_sameShelf.j0 (d : Unit) : Option ((Bool × Unit) × Unit) :=
 some ((true, ()), ())
def VF.impl_sameShelf.l1 (J : Unit → Option ((Bool × Unit) × Unit)) (ih : (List UInt8 × List Int × List TLay) × (List UInt8 × List Int × List TLay) × Int × Int →
 Option ((Bool × Unit) × Unit)) (d : (List UInt8 × List Int × List TLay) × (List UInt8 × List Int × List TLay) × Int × Int) : Option ((Bool × Unit) × Unit) :=
 sel (decide (d.2.2.2 < d.2.2.1))
 (grd (inb d.1.2.2 d.2.2.2)
 (grd (inb d.2.1.2.2 d.2.2.2)
 (sel
 (!(decide ((rdL d.1.2.2 d.2.2.2 (0, 0, 0, ())).1 = (rdL d.2.1.2.2 d.2.2.2 (0, 0, 0, ())).1) &&
 (decide
 ((rdL d.1.2.2 d.2.2.2 (0, 0, 0, ())).2.1 =
 (rdL d.2.1.2.2 d.2.2.2 (0, 0, 0, ())).2.1) &&
 (decide
 ((rdL d.1.2.2 d.2.2.2 (0, 0, 0, ())).2.2.1 =
 (rdL d.2.1.2.2 d.2.2.2 (0, 0, 0, ())).2.2.1) &&
 true))))
 (some ((false, ()), ()))
 (ih
 ((d.1.1, d.1.2.1, d.1.2.2), (d.2.1.1, d.2.1.2.1, d.2.1.2.2), d.2.2.1,
 IntKind.wrap IntKind.i64 (d.2.2.2 + 1))))))
 (J ())
def VF.impl_sameShelf.j2 (k : Nat) (d : (List UInt8 × List Int × List TLay) × List UInt8 × List Int × List TLay) : Option ((Bool × Unit) × Unit) :=
 join VF.impl_sameShelf.j0 fun (J : Unit → Option ((Bool × Unit) × Unit)) =>
 iter (VF.impl_sameShelf.l1 J) k
 ((d.1.1, d.1.2.1, d.1.2.2), (d.2.1, d.2.2.1, d.2.2.2), (List.length d.1.2.2 : Int), 0)
def VF.impl_sameShelf.l3 (J : (List UInt8 × List Int × List TLay) × List UInt8 × List Int × List TLay → Option ((Bool × Unit) × Unit)) (ih : (List UInt8 × List Int × List TLay) × (List UInt8 × List Int × List TLay) × Int × Int →
 Option ((Bool × Unit) × Unit)) (d : (List UInt8 × List Int × List TLay) × (List UInt8 × List Int × List TLay) × Int × Int) : Option ((Bool × Unit) × Unit) :=
 sel (decide (d.2.2.2 < d.2.2.1))
 (grd (inb d.1.2.1 d.2.2.2)
 (grd (inb d.2.1.2.1 d.2.2.2)
 (sel (!decide (rdL d.1.2.1 d.2.2.2 0 = rdL d.2.1.2.1 d.2.2.2 0)) (some ((false, ()), ()))
 (ih
 ((d.1.1, d.1.2.1, d.1.2.2), (d.2.1.1, d.2.1.2.1, d.2.1.2.2), d.2.2.1,
 IntKind.wrap IntKind.i64 (d.2.2.2 + 1))))))
 (J ((d.1.1, d.1.2.1, d.1.2.2), d.2.1.1, d.2.1.2.1, d.2.1.2.2))
def VF.impl_sameShelf.j4 (k : Nat) (d : (List UInt8 × List Int × List TLay) × List UInt8 × List Int × List TLay) : Option ((Bool × Unit) × Unit) :=
 join (VF.impl_sameShelf.j2 k)
 fun
 (J :
 (List UInt8 × List Int × List TLay) × List UInt8 × List Int × List TLay →
 Option ((Bool × Unit) × Unit)) =>
 iter (VF.impl_sameShelf.l3 J) k
 ((d.1.1, d.1.2.1, d.1.2.2), (d.2.1, d.2.2.1, d.2.2.2), (List.length d.1.2.1 : Int), 0)
def VF.impl_sameShelf (k : Nat) (a0 : List UInt8 × List Int × List TLay × Unit) (a1 : List UInt8 × List Int × List TLay × Unit) : Option ((Bool × Unit) × Unit) :=
 join (VF.impl_sameShelf.j4 k)
 fun
 (J :
 (List UInt8 × List Int × List TLay) × List UInt8 × List Int × List TLay →
 Option ((Bool × Unit) × Unit)) =>
 sel (!decide (a0.1 = a1.1)) (some ((false, ()), ()))
 (sel (!decide ((List.length a0.2.1 : Int) = (List.length a1.2.1 : Int))) (some ((false, ()), ()))
 (sel (!decide ((List.length a0.2.2.1 : Int) = (List.length a1.2.2.1 : Int))) (some ((false, ()), ()))
 (J ((a0.1, a0.2.1, a0.2.2.1), a1.1, a1.2.1, a1.2.2.1))))
def VF.impl_sameDocument.j0 (d : Unit) : Option ((Bool × Unit) × Unit) :=
 some ((true, ()), ())
