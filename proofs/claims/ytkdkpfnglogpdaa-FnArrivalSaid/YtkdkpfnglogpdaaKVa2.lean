/- More functions, as printed. -/
import Derived.Test.YtkdkpfnglogpdaaKVa
set_option linter.unusedVariables false
open Go VM
def VF.impl_sameDocument.l1 (J : Unit → Option ((Bool × Unit) × Unit)) (ih : (Int × Int × List TEnt) × (Int × Int × List TEnt) × Int × Int → Option ((Bool × Unit) × Unit)) (d : (Int × Int × List TEnt) × (Int × Int × List TEnt) × Int × Int) : Option ((Bool × Unit) × Unit) :=
 sel (decide (d.2.2.2 < d.2.2.1))
 (grd (inb d.1.2.2 d.2.2.2)
 (grd (inb d.2.1.2.2 d.2.2.2)
 (sel
 (!(decide ((rdL d.1.2.2 d.2.2.2 ([], 0, ())).1 = (rdL d.2.1.2.2 d.2.2.2 ([], 0, ())).1) &&
 (decide
 ((rdL d.1.2.2 d.2.2.2 ([], 0, ())).2.1 = (rdL d.2.1.2.2 d.2.2.2 ([], 0, ())).2.1) &&
 true)))
 (some ((false, ()), ()))
 (ih
 ((d.1.1, d.1.2.1, d.1.2.2), (d.2.1.1, d.2.1.2.1, d.2.1.2.2), d.2.2.1,
 IntKind.wrap IntKind.i64 (d.2.2.2 + 1))))))
 (J ())
def VF.impl_sameDocument.j2 (k : Nat) (d : (Int × Int × List TEnt) × Int × Int × List TEnt) : Option ((Bool × Unit) × Unit) :=
 join VF.impl_sameDocument.j0 fun (J : Unit → Option ((Bool × Unit) × Unit)) =>
 iter (VF.impl_sameDocument.l1 J) k
 ((d.1.1, d.1.2.1, d.1.2.2), (d.2.1, d.2.2.1, d.2.2.2), (List.length d.1.2.2 : Int), 0)
def VF.impl_sameDocument (k : Nat) (a0 : Int × Int × List TEnt × Unit) (a1 : Int × Int × List TEnt × Unit) : Option ((Bool × Unit) × Unit) :=
 join (VF.impl_sameDocument.j2 k)
 fun (J : (Int × Int × List TEnt) × Int × Int × List TEnt → Option ((Bool × Unit) × Unit)) =>
 sel (!decide (a0.1 = a1.1)) (some ((false, ()), ()))
 (sel (!decide (a0.2.1 = a1.2.1)) (some ((false, ()), ()))
 (sel (!decide ((List.length a0.2.2.1 : Int) = (List.length a1.2.2.1 : Int))) (some ((false, ()), ()))
 (J ((a0.1, a0.2.1, a0.2.2.1), a1.1, a1.2.1, a1.2.2.1))))
def VF.impl_SameBooks.j0 (d : Unit) : Option ((Bool × Unit) × Unit) :=
 some ((true, ()), ())
def VF.impl_SameBooks.l1 (k : Nat) (J : Unit → Option ((Bool × Unit) × Unit)) (ih : (List TShelf × Int × List TDoc) ×
 (List TShelf × Int × List TDoc) ×
 Int × Int →
 Option ((Bool × Unit) × Unit)) (d : (List TShelf × Int × List TDoc) ×
 (List TShelf × Int × List TDoc) ×
 Int × Int) : Option ((Bool × Unit) × Unit) :=
 sel (decide (d.2.2.2 < d.2.2.1))
 (grd (inb d.1.2.2 d.2.2.2)
 (grd (inb d.2.1.2.2 d.2.2.2)
 (bnd
 (VF.impl_sameDocument k
 ((rdL d.1.2.2 d.2.2.2 (0, 0, [], ())).1, (rdL d.1.2.2 d.2.2.2 (0, 0, [], ())).2.1,
 (rdL d.1.2.2 d.2.2.2 (0, 0, [], ())).2.2.1, ())
 ((rdL d.2.1.2.2 d.2.2.2 (0, 0, [], ())).1, (rdL d.2.1.2.2 d.2.2.2 (0, 0, [], ())).2.1,
 (rdL d.2.1.2.2 d.2.2.2 (0, 0, [], ())).2.2.1, ()))
 fun (y : (Bool × Unit) × Unit) =>
 sel (!y.1.1) (some ((false, ()), ()))
 (ih
 ((d.1.1, d.1.2.1, d.1.2.2), (d.2.1.1, d.2.1.2.1, d.2.1.2.2), d.2.2.1,
 IntKind.wrap IntKind.i64 (d.2.2.2 + 1))))))
 (J ())
def VF.impl_SameBooks.j2 (k : Nat) (d : (List TShelf × Int × List TDoc) ×
 List TShelf × Int × List TDoc) : Option ((Bool × Unit) × Unit) :=
 join VF.impl_SameBooks.j0 fun (J : Unit → Option ((Bool × Unit) × Unit)) =>
 iter (VF.impl_SameBooks.l1 k J) k
 ((d.1.1, d.1.2.1, d.1.2.2), (d.2.1, d.2.2.1, d.2.2.2), (List.length d.1.2.2 : Int), 0)
def VF.impl_SameBooks.l3 (k : Nat) (J : (List TShelf × Int × List TDoc) ×
 List TShelf × Int × List TDoc →
 Option ((Bool × Unit) × Unit)) (ih : (List TShelf × Int × List TDoc) ×
 (List TShelf × Int × List TDoc) ×
 Int × Int →
 Option ((Bool × Unit) × Unit)) (d : (List TShelf × Int × List TDoc) ×
 (List TShelf × Int × List TDoc) ×
 Int × Int) : Option ((Bool × Unit) × Unit) :=
 sel (decide (d.2.2.2 < d.2.2.1))
 (grd (inb d.1.1 d.2.2.2)
 (grd (inb d.2.1.1 d.2.2.2)
 (bnd
 (VF.impl_sameShelf k
 ((rdL d.1.1 d.2.2.2 ([], [], [], ())).1, (rdL d.1.1 d.2.2.2 ([], [], [], ())).2.1,
 (rdL d.1.1 d.2.2.2 ([], [], [], ())).2.2.1, ())
 ((rdL d.2.1.1 d.2.2.2 ([], [], [], ())).1, (rdL d.2.1.1 d.2.2.2 ([], [], [], ())).2.1,
 (rdL d.2.1.1 d.2.2.2 ([], [], [], ())).2.2.1, ()))
 fun (y : (Bool × Unit) × Unit) =>
 sel (!y.1.1) (some ((false, ()), ()))
 (ih
 ((d.1.1, d.1.2.1, d.1.2.2), (d.2.1.1, d.2.1.2.1, d.2.1.2.2), d.2.2.1,
 IntKind.wrap IntKind.i64 (d.2.2.2 + 1))))))
 (J ((d.1.1, d.1.2.1, d.1.2.2), d.2.1.1, d.2.1.2.1, d.2.1.2.2))
def VF.impl_SameBooks.j4 (k : Nat) (d : (List TShelf × Int × List TDoc) ×
 List TShelf × Int × List TDoc) : Option ((Bool × Unit) × Unit) :=
 join (VF.impl_SameBooks.j2 k)
 fun
 (J :
 (List TShelf × Int × List TDoc) ×
 List TShelf × Int × List TDoc →
 Option ((Bool × Unit) × Unit)) =>
 iter (VF.impl_SameBooks.l3 k J) k
 ((d.1.1, d.1.2.1, d.1.2.2), (d.2.1, d.2.2.1, d.2.2.2), (List.length d.1.1 : Int), 0)
def VF.impl_SameBooks (k : Nat) (a0 : List TShelf × Int × List TDoc × Unit) (a1 : List TShelf × Int × List TDoc × Unit) : Option ((Bool × Unit) × Unit) :=
 join (VF.impl_SameBooks.j4 k)
 fun
 (J :
 (List TShelf × Int × List TDoc) ×
 List TShelf × Int × List TDoc →
 Option ((Bool × Unit) × Unit)) =>
 sel (!decide (a0.2.1 = a1.2.1)) (some ((false, ()), ()))
 (sel (!decide ((List.length a0.1 : Int) = (List.length a1.1 : Int))) (some ((false, ()), ()))
 (sel (!decide ((List.length a0.2.2.1 : Int) = (List.length a1.2.2.1 : Int))) (some ((false, ()), ()))
 (J ((a0.1, a0.2.1, a0.2.2.1), a1.1, a1.2.1, a1.2.2.1))))
def VF.spec_SameBooks.j0 (d : Unit) : Option ((Bool × Unit) × Unit) :=
 some ((true, ()), ())
def VF.spec_SameBooks.j1 (ih : (List TShelf × Int × List TDoc) ×
 (List TShelf × Int × List TDoc) × Int →
 Option ((Bool × Unit) × Unit)) (d : (List TShelf × Int × List TDoc) ×
 (List TShelf × Int × List TDoc) × Int) : Option ((Bool × Unit) × Unit) :=
 ih ((d.1.1, d.1.2.1, d.1.2.2), (d.2.1.1, d.2.1.2.1, d.2.1.2.2), IntKind.wrap IntKind.i64 (d.2.2 + 1))
def VF.spec_SameBooks.l2 (J : (List TShelf × Int × List TDoc) ×
 (List TShelf × Int × List TDoc) × Int →
 Option ((Bool × Unit) × Unit)) (ih : (List TShelf × Int × List TDoc) ×
 (List TShelf × Int × List TDoc) ×
 Int × (Int × Int × List TEnt) × (Int × Int × List TEnt) × Int →
 Option ((Bool × Unit) × Unit)) (d : (List TShelf × Int × List TDoc) ×
 (List TShelf × Int × List TDoc) ×
 Int × (Int × Int × List TEnt) × (Int × Int × List TEnt) × Int) : Option ((Bool × Unit) × Unit) :=
 sel (decide (d.2.2.2.2.2 < (List.length d.2.2.2.1.2.2 : Int)))
 (grd (inb d.2.2.2.1.2.2 d.2.2.2.2.2)
 (grd (inb d.2.2.2.2.1.2.2 d.2.2.2.2.2)
 (sel
 (!(decide
 ((rdL d.2.2.2.1.2.2 d.2.2.2.2.2 ([], 0, ())).1 =
 (rdL d.2.2.2.2.1.2.2 d.2.2.2.2.2 ([], 0, ())).1) &&
 (decide
 ((rdL d.2.2.2.1.2.2 d.2.2.2.2.2 ([], 0, ())).2.1 =
 (rdL d.2.2.2.2.1.2.2 d.2.2.2.2.2 ([], 0, ())).2.1) &&
 true)))
 (some ((false, ()), ()))
 (ih
 ((d.1.1, d.1.2.1, d.1.2.2), (d.2.1.1, d.2.1.2.1, d.2.1.2.2), d.2.2.1,
 (d.2.2.2.1.1, d.2.2.2.1.2.1, d.2.2.2.1.2.2),
 (d.2.2.2.2.1.1, d.2.2.2.2.1.2.1, d.2.2.2.2.1.2.2),
 IntKind.wrap IntKind.i64 (d.2.2.2.2.2 + 1))))))
 (J ((d.1.1, d.1.2.1, d.1.2.2), (d.2.1.1, d.2.1.2.1, d.2.1.2.2), d.2.2.1))
def VF.spec_SameBooks.j3 (k : Nat) (J : (List TShelf × Int × List TDoc) ×
 (List TShelf × Int × List TDoc) × Int →
 Option ((Bool × Unit) × Unit)) (d : (List TShelf × Int × List TDoc) ×
 (List TShelf × Int × List TDoc) ×
 Int × (Int × Int × List TEnt) × Int × Int × List TEnt) : Option ((Bool × Unit) × Unit) :=
 iter (VF.spec_SameBooks.l2 J) k
 ((d.1.1, d.1.2.1, d.1.2.2), (d.2.1.1, d.2.1.2.1, d.2.1.2.2), d.2.2.1,
 (d.2.2.2.1.1, d.2.2.2.1.2.1, d.2.2.2.1.2.2),
 (d.2.2.2.2.1, d.2.2.2.2.2.1, d.2.2.2.2.2.2), 0)
def VF.spec_SameBooks.l4 (k : Nat) (J : Unit → Option ((Bool × Unit) × Unit)) (ih : (List TShelf × Int × List TDoc) ×
 (List TShelf × Int × List TDoc) × Int →
 Option ((Bool × Unit) × Unit)) (d : (List TShelf × Int × List TDoc) ×
 (List TShelf × Int × List TDoc) × Int) : Option ((Bool × Unit) × Unit) :=
 sel (decide (d.2.2 < (List.length d.1.2.2 : Int)))
 (join (VF.spec_SameBooks.j1 ih)
 fun
 (J :
 (List TShelf × Int × List TDoc) ×
 (List TShelf ×
 Int × List TDoc) ×
 Int →
 Option ((Bool × Unit) × Unit)) =>
 grd (inb d.1.2.2 d.2.2)
 (grd (inb d.2.1.2.2 d.2.2)
 (join (VF.spec_SameBooks.j3 k J)
 fun
 (J :
 (List TShelf ×
 Int × List TDoc) ×
 (List TShelf ×
 Int × List TDoc) ×
 Int × (Int × Int × List TEnt) × Int × Int × List TEnt →
 Option ((Bool × Unit) × Unit)) =>
 sel (!decide ((rdL d.1.2.2 d.2.2 (0, 0, [], ())).1 = (rdL d.2.1.2.2 d.2.2 (0, 0, [], ())).1))
 (some ((false, ()), ()))
 (sel
 (!decide
 ((rdL d.1.2.2 d.2.2 (0, 0, [], ())).2.1 = (rdL d.2.1.2.2 d.2.2 (0, 0, [], ())).2.1))
 (some ((false, ()), ()))
 (sel
 (!decide
 ((List.length (rdL d.1.2.2 d.2.2 (0, 0, [], ())).2.2.1 : Int) =
 (List.length (rdL d.2.1.2.2 d.2.2 (0, 0, [], ())).2.2.1 : Int)))
 (some ((false, ()), ()))
 (J
 ((d.1.1, d.1.2.1, d.1.2.2), (d.2.1.1, d.2.1.2.1, d.2.1.2.2), d.2.2,
 ((rdL d.1.2.2 d.2.2 (0, 0, [], ())).1, (rdL d.1.2.2 d.2.2 (0, 0, [], ())).2.1,
 (rdL d.1.2.2 d.2.2 (0, 0, [], ())).2.2.1),
 (rdL d.2.1.2.2 d.2.2 (0, 0, [], ())).1, (rdL d.2.1.2.2 d.2.2 (0, 0, [], ())).2.1,
 (rdL d.2.1.2.2 d.2.2 (0, 0, [], ())).2.2.1)))))))
 (J ())
def VF.spec_SameBooks.j5 (k : Nat) (d : (List TShelf × Int × List TDoc) ×
 List TShelf × Int × List TDoc) : Option ((Bool × Unit) × Unit) :=
 join VF.spec_SameBooks.j0 fun (J : Unit → Option ((Bool × Unit) × Unit)) =>
 iter (VF.spec_SameBooks.l4 k J) k ((d.1.1, d.1.2.1, d.1.2.2), (d.2.1, d.2.2.1, d.2.2.2), 0)
def VF.spec_SameBooks.j6 (ih : (List TShelf × Int × List TDoc) ×
 (List TShelf × Int × List TDoc) × Int →
 Option ((Bool × Unit) × Unit)) (d : (List TShelf × Int × List TDoc) ×
 (List TShelf × Int × List TDoc) × Int) : Option ((Bool × Unit) × Unit) :=
 ih ((d.1.1, d.1.2.1, d.1.2.2), (d.2.1.1, d.2.1.2.1, d.2.1.2.2), IntKind.wrap IntKind.i64 (d.2.2 + 1))
def VF.spec_SameBooks.l7 (J : (List TShelf × Int × List TDoc) ×
 (List TShelf × Int × List TDoc) × Int →
 Option ((Bool × Unit) × Unit)) (ih : (List TShelf × Int × List TDoc) ×
 (List TShelf × Int × List TDoc) ×
 Int × (List UInt8 × List Int × List TLay) × (List UInt8 × List Int × List TLay) × Int →
 Option ((Bool × Unit) × Unit)) (d : (List TShelf × Int × List TDoc) ×
 (List TShelf × Int × List TDoc) ×
 Int × (List UInt8 × List Int × List TLay) × (List UInt8 × List Int × List TLay) × Int) : Option ((Bool × Unit) × Unit) :=
 sel (decide (d.2.2.2.2.2 < (List.length d.2.2.2.1.2.2 : Int)))
 (grd (inb d.2.2.2.1.2.2 d.2.2.2.2.2)
 (grd (inb d.2.2.2.2.1.2.2 d.2.2.2.2.2)
 (sel
 (!(decide
 ((rdL d.2.2.2.1.2.2 d.2.2.2.2.2 (0, 0, 0, ())).1 =
 (rdL d.2.2.2.2.1.2.2 d.2.2.2.2.2 (0, 0, 0, ())).1) &&
 (decide
 ((rdL d.2.2.2.1.2.2 d.2.2.2.2.2 (0, 0, 0, ())).2.1 =
 (rdL d.2.2.2.2.1.2.2 d.2.2.2.2.2 (0, 0, 0, ())).2.1) &&
 (decide
 ((rdL d.2.2.2.1.2.2 d.2.2.2.2.2 (0, 0, 0, ())).2.2.1 =
 (rdL d.2.2.2.2.1.2.2 d.2.2.2.2.2 (0, 0, 0, ())).2.2.1) &&
 true))))
 (some ((false, ()), ()))
 (ih
 ((d.1.1, d.1.2.1, d.1.2.2), (d.2.1.1, d.2.1.2.1, d.2.1.2.2), d.2.2.1,
 (d.2.2.2.1.1, d.2.2.2.1.2.1, d.2.2.2.1.2.2),
 (d.2.2.2.2.1.1, d.2.2.2.2.1.2.1, d.2.2.2.2.1.2.2),
 IntKind.wrap IntKind.i64 (d.2.2.2.2.2 + 1))))))
 (J ((d.1.1, d.1.2.1, d.1.2.2), (d.2.1.1, d.2.1.2.1, d.2.1.2.2), d.2.2.1))
def VF.spec_SameBooks.j8 (k : Nat) (J : (List TShelf × Int × List TDoc) ×
 (List TShelf × Int × List TDoc) × Int →
 Option ((Bool × Unit) × Unit)) (d : (List TShelf × Int × List TDoc) ×
 (List TShelf × Int × List TDoc) ×
 Int × (List UInt8 × List Int × List TLay) × List UInt8 × List Int × List TLay) : Option ((Bool × Unit) × Unit) :=
 iter (VF.spec_SameBooks.l7 J) k
 ((d.1.1, d.1.2.1, d.1.2.2), (d.2.1.1, d.2.1.2.1, d.2.1.2.2), d.2.2.1,
 (d.2.2.2.1.1, d.2.2.2.1.2.1, d.2.2.2.1.2.2),
 (d.2.2.2.2.1, d.2.2.2.2.2.1, d.2.2.2.2.2.2), 0)
def VF.spec_SameBooks.l9 (J : (List TShelf × Int × List TDoc) ×
 (List TShelf × Int × List TDoc) ×
 Int × (List UInt8 × List Int × List TLay) × List UInt8 × List Int × List TLay →
 Option ((Bool × Unit) × Unit)) (ih : (List TShelf × Int × List TDoc) ×
 (List TShelf × Int × List TDoc) ×
 Int × (List UInt8 × List Int × List TLay) × (List UInt8 × List Int × List TLay) × Int →
 Option ((Bool × Unit) × Unit)) (d : (List TShelf × Int × List TDoc) ×
 (List TShelf × Int × List TDoc) ×
 Int × (List UInt8 × List Int × List TLay) × (List UInt8 × List Int × List TLay) × Int) : Option ((Bool × Unit) × Unit) :=
 sel (decide (d.2.2.2.2.2 < (List.length d.2.2.2.1.2.1 : Int)))
 (grd (inb d.2.2.2.1.2.1 d.2.2.2.2.2)
 (grd (inb d.2.2.2.2.1.2.1 d.2.2.2.2.2)
 (sel (!decide (rdL d.2.2.2.1.2.1 d.2.2.2.2.2 0 = rdL d.2.2.2.2.1.2.1 d.2.2.2.2.2 0))
 (some ((false, ()), ()))
 (ih
 ((d.1.1, d.1.2.1, d.1.2.2), (d.2.1.1, d.2.1.2.1, d.2.1.2.2), d.2.2.1,
 (d.2.2.2.1.1, d.2.2.2.1.2.1, d.2.2.2.1.2.2),
 (d.2.2.2.2.1.1, d.2.2.2.2.1.2.1, d.2.2.2.2.1.2.2),
 IntKind.wrap IntKind.i64 (d.2.2.2.2.2 + 1))))))
 (J
 ((d.1.1, d.1.2.1, d.1.2.2), (d.2.1.1, d.2.1.2.1, d.2.1.2.2), d.2.2.1,
 (d.2.2.2.1.1, d.2.2.2.1.2.1, d.2.2.2.1.2.2), d.2.2.2.2.1.1, d.2.2.2.2.1.2.1,
 d.2.2.2.2.1.2.2))
def VF.spec_SameBooks.j10 (k : Nat) (J : (List TShelf × Int × List TDoc) ×
 (List TShelf × Int × List TDoc) × Int →
 Option ((Bool × Unit) × Unit)) (d : (List TShelf × Int × List TDoc) ×
 (List TShelf × Int × List TDoc) ×
 Int × (List UInt8 × List Int × List TLay) × List UInt8 × List Int × List TLay) : Option ((Bool × Unit) × Unit) :=
 join (VF.spec_SameBooks.j8 k J)
 fun
 (J :
 (List TShelf × Int × List TDoc) ×
 (List TShelf × Int × List TDoc) ×
 Int × (List UInt8 × List Int × List TLay) × List UInt8 × List Int × List TLay →
 Option ((Bool × Unit) × Unit)) =>
 iter (VF.spec_SameBooks.l9 J) k
 ((d.1.1, d.1.2.1, d.1.2.2), (d.2.1.1, d.2.1.2.1, d.2.1.2.2), d.2.2.1,
 (d.2.2.2.1.1, d.2.2.2.1.2.1, d.2.2.2.1.2.2),
 (d.2.2.2.2.1, d.2.2.2.2.2.1, d.2.2.2.2.2.2), 0)
def VF.spec_SameBooks.l11 (k : Nat) (J : (List TShelf × Int × List TDoc) ×
 List TShelf × Int × List TDoc →
 Option ((Bool × Unit) × Unit)) (ih : (List TShelf × Int × List TDoc) ×
 (List TShelf × Int × List TDoc) × Int →
 Option ((Bool × Unit) × Unit)) (d : (List TShelf × Int × List TDoc) ×
 (List TShelf × Int × List TDoc) × Int) : Option ((Bool × Unit) × Unit) :=
 sel (decide (d.2.2 < (List.length d.1.1 : Int)))
 (join (VF.spec_SameBooks.j6 ih)
 fun
 (J :
 (List TShelf × Int × List TDoc) ×
 (List TShelf ×
 Int × List TDoc) ×
 Int →
 Option ((Bool × Unit) × Unit)) =>
 grd (inb d.1.1 d.2.2)
 (grd (inb d.2.1.1 d.2.2)
 (join (VF.spec_SameBooks.j10 k J)
 fun
 (J :
 (List TShelf ×
 Int × List TDoc) ×
 (List TShelf ×
 Int × List TDoc) ×
 Int × (List UInt8 × List Int × List TLay) × List UInt8 × List Int × List TLay →
 Option ((Bool × Unit) × Unit)) =>
 sel (!decide ((rdL d.1.1 d.2.2 ([], [], [], ())).1 = (rdL d.2.1.1 d.2.2 ([], [], [], ())).1))
 (some ((false, ()), ()))
 (sel
 (!decide
 ((List.length (rdL d.1.1 d.2.2 ([], [], [], ())).2.1 : Int) =
 (List.length (rdL d.2.1.1 d.2.2 ([], [], [], ())).2.1 : Int)))
 (some ((false, ()), ()))
 (sel
 (!decide
 ((List.length (rdL d.1.1 d.2.2 ([], [], [], ())).2.2.1 : Int) =
 (List.length (rdL d.2.1.1 d.2.2 ([], [], [], ())).2.2.1 : Int)))
 (some ((false, ()), ()))
 (J
 ((d.1.1, d.1.2.1, d.1.2.2), (d.2.1.1, d.2.1.2.1, d.2.1.2.2), d.2.2,
 ((rdL d.1.1 d.2.2 ([], [], [], ())).1, (rdL d.1.1 d.2.2 ([], [], [], ())).2.1,
 (rdL d.1.1 d.2.2 ([], [], [], ())).2.2.1),
 (rdL d.2.1.1 d.2.2 ([], [], [], ())).1, (rdL d.2.1.1 d.2.2 ([], [], [], ())).2.1,
 (rdL d.2.1.1 d.2.2 ([], [], [], ())).2.2.1)))))))
 (J ((d.1.1, d.1.2.1, d.1.2.2), d.2.1.1, d.2.1.2.1, d.2.1.2.2))
def VF.spec_SameBooks.j12 (k : Nat) (d : (List TShelf × Int × List TDoc) ×
 List TShelf × Int × List TDoc) : Option ((Bool × Unit) × Unit) :=
 join (VF.spec_SameBooks.j5 k)
 fun
 (J :
 (List TShelf × Int × List TDoc) ×
 List TShelf × Int × List TDoc →
 Option ((Bool × Unit) × Unit)) =>
 iter (VF.spec_SameBooks.l11 k J) k ((d.1.1, d.1.2.1, d.1.2.2), (d.2.1, d.2.2.1, d.2.2.2), 0)
def VF.spec_SameBooks (k : Nat) (a0 : List TShelf × Int × List TDoc × Unit) (a1 : List TShelf × Int × List TDoc × Unit) : Option ((Bool × Unit) × Unit) :=
 join (VF.spec_SameBooks.j12 k)
 fun
 (J :
 (List TShelf × Int × List TDoc) ×
 List TShelf × Int × List TDoc →
 Option ((Bool × Unit) × Unit)) =>
 sel (!decide ((List.length a0.1 : Int) = (List.length a1.1 : Int))) (some ((false, ()), ()))
 (sel (!decide (a0.2.1 = a1.2.1)) (some ((false, ()), ()))
 (sel (!decide ((List.length a0.2.2.1 : Int) = (List.length a1.2.2.1 : Int))) (some ((false, ()), ()))
 (J ((a0.1, a0.2.1, a0.2.2.1), a1.1, a1.2.1, a1.2.2.1))))
def VF.laws_sameInts.j0 (d : Unit) : Option ((Bool × Unit) × Unit) :=
 some ((true, ()), ())
def VF.laws_sameInts.l1 (a0 : List Int) (a1 : List Int) (J : Unit → Option ((Bool × Unit) × Unit)) (ih : Int → Option ((Bool × Unit) × Unit)) (d : Int) : Option ((Bool × Unit) × Unit) :=
 sel (decide (d < (List.length a0 : Int)))
 (grd (inb a0 d)
 (grd (inb a1 d) (sel (!decide (rdL a0 d 0 = rdL a1 d 0)) (some ((false, ()), ())) (ih (IntKind.wrap IntKind.i64 (d + 1))))))
 (J ())
def VF.laws_sameInts (k : Nat) (a0 : List Int) (a1 : List Int) : Option ((Bool × Unit) × Unit) :=
 sel (!decide ((List.length a0 : Int) = (List.length a1 : Int))) (some ((false, ()), ()))
 (join VF.laws_sameInts.j0 fun (J : Unit → Option ((Bool × Unit) × Unit)) => iter (VF.laws_sameInts.l1 a0 a1 J) k 0)
def VF.laws_sameEvents.j0 (d : Unit) : Option ((Bool × Unit) × Unit) :=
 some ((true, ()), ())
def VF.laws_sameEvents.l1 (a0 : List TEv) (a1 : List TEv) (J : Unit → Option ((Bool × Unit) × Unit)) (ih : Int → Option ((Bool × Unit) × Unit)) (d : Int) : Option ((Bool × Unit) × Unit) :=
 sel (decide (d < (List.length a0 : Int)))
 (grd (inb a0 d)
 (grd (inb a1 d)
 (sel
 (!(decide ((rdL a0 d (0, 0, 0, [], 0, 0, 0, ())).1 = (rdL a1 d (0, 0, 0, [], 0, 0, 0, ())).1) &&
 (decide ((rdL a0 d (0, 0, 0, [], 0, 0, 0, ())).2.1 = (rdL a1 d (0, 0, 0, [], 0, 0, 0, ())).2.1) &&
 (decide ((rdL a0 d (0, 0, 0, [], 0, 0, 0, ())).2.2.1 = (rdL a1 d (0, 0, 0, [], 0, 0, 0, ())).2.2.1) &&
 (decide
 ((rdL a0 d (0, 0, 0, [], 0, 0, 0, ())).2.2.2.1 = (rdL a1 d (0, 0, 0, [], 0, 0, 0, ())).2.2.2.1) &&
 (decide
 ((rdL a0 d (0, 0, 0, [], 0, 0, 0, ())).2.2.2.2.1 =
 (rdL a1 d (0, 0, 0, [], 0, 0, 0, ())).2.2.2.2.1) &&
 (decide
 ((rdL a0 d (0, 0, 0, [], 0, 0, 0, ())).2.2.2.2.2.1 =
 (rdL a1 d (0, 0, 0, [], 0, 0, 0, ())).2.2.2.2.2.1) &&
 (decide
 ((rdL a0 d (0, 0, 0, [], 0, 0, 0, ())).2.2.2.2.2.2.1 =
 (rdL a1 d (0, 0, 0, [], 0, 0, 0, ())).2.2.2.2.2.2.1) &&
 true))))))))
 (some ((false, ()), ())) (ih (IntKind.wrap IntKind.i64 (d + 1))))))
 (J ())
def VF.laws_sameEvents (k : Nat) (a0 : List TEv) (a1 : List TEv) : Option ((Bool × Unit) × Unit) :=
 sel (!decide ((List.length a0 : Int) = (List.length a1 : Int))) (some ((false, ()), ()))
 (join VF.laws_sameEvents.j0 fun (J : Unit → Option ((Bool × Unit) × Unit)) => iter (VF.laws_sameEvents.l1 a0 a1 J) k 0)
def VF.impl_BalanceOf.j0 (d : Int) : Option ((Int × Unit) × Unit) :=
 some ((d, ()), ())
def VF.impl_BalanceOf.j1 (ih : Int × List TDoc × Int × Int → Option ((Int × Unit) × Unit)) (d : Int × List TDoc × Int × Int) : Option ((Int × Unit) × Unit) :=
 ih (d.1, d.2.1, d.2.2.1, IntKind.wrap IntKind.i64 (d.2.2.2 + 1))
def VF.impl_BalanceOf.l2 (a1 : List UInt8) (a2 : Int) (J : Int × List TDoc × Int × Int → Option ((Int × Unit) × Unit)) (ih : Int ×
 (Int × Int × List TEnt) ×
 List TDoc × Int × Int × List TEnt × Int × Int →
 Option ((Int × Unit) × Unit)) (d : Int ×
 (Int × Int × List TEnt) ×
 List TDoc × Int × Int × List TEnt × Int × Int) : Option ((Int × Unit) × Unit) :=
 sel (decide (d.2.2.2.2.2.2.2 < d.2.2.2.2.2.2.1))
 (grd (inb d.2.2.2.2.2.1 d.2.2.2.2.2.2.2)
 (sel (decide (d.2.1.2.1 ≤ a2))
 (sel (decide ((rdL d.2.2.2.2.2.1 d.2.2.2.2.2.2.2 ([], 0, ())).1 = a1))
 (ih
 (IntKind.wrap IntKind.i64 (d.1 + (rdL d.2.2.2.2.2.1 d.2.2.2.2.2.2.2 ([], 0, ())).2.1),
 (d.2.1.1, d.2.1.2.1, d.2.1.2.2), d.2.2.1, d.2.2.2.1, d.2.2.2.2.1, d.2.2.2.2.2.1,
 d.2.2.2.2.2.2.1, IntKind.wrap IntKind.i64 (d.2.2.2.2.2.2.2 + 1)))
 (ih
 (d.1, (d.2.1.1, d.2.1.2.1, d.2.1.2.2), d.2.2.1, d.2.2.2.1, d.2.2.2.2.1,
 d.2.2.2.2.2.1, d.2.2.2.2.2.2.1, IntKind.wrap IntKind.i64 (d.2.2.2.2.2.2.2 + 1))))
 (ih
 (d.1, (d.2.1.1, d.2.1.2.1, d.2.1.2.2), d.2.2.1, d.2.2.2.1, d.2.2.2.2.1,
 d.2.2.2.2.2.1, d.2.2.2.2.2.2.1, IntKind.wrap IntKind.i64 (d.2.2.2.2.2.2.2 + 1)))))
 (J (d.1, d.2.2.1, d.2.2.2.1, d.2.2.2.2.1))
def VF.impl_BalanceOf.l3 (k : Nat) (a1 : List UInt8) (a2 : Int) (J : Int → Option ((Int × Unit) × Unit)) (ih : Int × List TDoc × Int × Int → Option ((Int × Unit) × Unit)) (d : Int × List TDoc × Int × Int) : Option ((Int × Unit) × Unit) :=
 sel (decide (d.2.2.2 < d.2.2.1))
 (join (VF.impl_BalanceOf.j1 ih)
 fun (J : Int × List TDoc × Int × Int → Option ((Int × Unit) × Unit)) =>
 grd (inb d.2.1 d.2.2.2)
 (iter (VF.impl_BalanceOf.l2 a1 a2 J) k
 (d.1,
 ((rdL d.2.1 d.2.2.2 (0, 0, [], ())).1, (rdL d.2.1 d.2.2.2 (0, 0, [], ())).2.1,
 (rdL d.2.1 d.2.2.2 (0, 0, [], ())).2.2.1),
 d.2.1, d.2.2.1, d.2.2.2, (rdL d.2.1 d.2.2.2 (0, 0, [], ())).2.2.1,
 (List.length (rdL d.2.1 d.2.2.2 (0, 0, [], ())).2.2.1 : Int), 0)))
 (J d.1)
def VF.impl_BalanceOf (k : Nat) (a0 : List TDoc) (a1 : List UInt8) (a2 : Int) : Option ((Int × Unit) × Unit) :=
 bnd (VF.impl_AreDocuments k a0) fun (y : (Bool × Unit) × Unit) =>
 sel (!y.1.1) (some ((0, ()), ()))
 (join VF.impl_BalanceOf.j0 fun (J : Int → Option ((Int × Unit) × Unit)) =>
 iter (VF.impl_BalanceOf.l3 k a1 a2 J) k (0, a0, (List.length a0 : Int), 0))
def VF.impl_WorthOf.j0 (d : Int) : Option ((Int × Unit) × Unit) :=
 some ((d, ()), ())
def VF.impl_WorthOf.l1 (k : Nat) (J : Int → Option ((Int × Unit) × Unit)) (ih : Int × List TLay × Int × Int → Option ((Int × Unit) × Unit)) (d : Int × List TLay × Int × Int) : Option ((Int × Unit) × Unit) :=
 sel (decide (d.2.2.2 < d.2.2.1))
 (grd (inb d.2.1 d.2.2.2)
 (bnd
 (VF.impl_firstCost k
 ((rdL d.2.1 d.2.2.2 (0, 0, 0, ())).1, (rdL d.2.1 d.2.2.2 (0, 0, 0, ())).2.1,
 (rdL d.2.1 d.2.2.2 (0, 0, 0, ())).2.2.1, ())
 (rdL d.2.1 d.2.2.2 (0, 0, 0, ())).2.2.1)
 fun (y : (Int × Unit) × Unit) =>
 ih
 (IntKind.wrap IntKind.i64 (d.1 + IntKind.wrap IntKind.i64 ((rdL d.2.1 d.2.2.2 (0, 0, 0, ())).2.1 - y.1.1)),
 d.2.1, d.2.2.1, IntKind.wrap IntKind.i64 (d.2.2.2 + 1))))
 (J d.1)
def VF.impl_WorthOf (k : Nat) (a0 : List TLay) : Option ((Int × Unit) × Unit) :=
 bnd (VF.impl_AreLayers k a0) fun (y : (Bool × Unit) × Unit) =>
 sel (!y.1.1) (some ((0, ()), ()))
 (join VF.impl_WorthOf.j0 fun (J : Int → Option ((Int × Unit) × Unit)) => iter (VF.impl_WorthOf.l1 k J) k (0, a0, (List.length a0 : Int), 0))
def VF.impl_StockWorth.j0 (d : Int) : Option ((Int × Unit) × Unit) :=
 some ((d, ()), ())
def VF.impl_StockWorth.l1 (k : Nat) (J : Int → Option ((Int × Unit) × Unit)) (ih : Int × List TShelf × Int × Int → Option ((Int × Unit) × Unit)) (d : Int × List TShelf × Int × Int) : Option ((Int × Unit) × Unit) :=
 sel (decide (d.2.2.2 < d.2.2.1))
 (grd (inb d.2.1 d.2.2.2)
 (bnd (VF.impl_WorthOf k (rdL d.2.1 d.2.2.2 ([], [], [], ())).2.2.1) fun (y : (Int × Unit) × Unit) =>
 ih (IntKind.wrap IntKind.i64 (d.1 + y.1.1), d.2.1, d.2.2.1, IntKind.wrap IntKind.i64 (d.2.2.2 + 1))))
 (J d.1)
def VF.impl_StockWorth (k : Nat) (a0 : List TShelf × Int × List TDoc × Unit) : Option ((Int × Unit) × Unit) :=
 bnd (VF.impl_AreBooks k (a0.1, a0.2.1, a0.2.2.1, ())) fun (y : (Bool × Unit) × Unit) =>
 sel (!y.1.1) (some ((0, ()), ()))
 (join VF.impl_StockWorth.j0 fun (J : Int → Option ((Int × Unit) × Unit)) =>
 iter (VF.impl_StockWorth.l1 k J) k (0, a0.1, (List.length a0.1 : Int), 0))
def VF.impl_BooksAgree (k : Nat) (a0 : List TShelf × Int × List TDoc × Unit) : Option ((Bool × Unit) × Unit) :=
 bnd (VF.impl_AreBooks k (a0.1, a0.2.1, a0.2.2.1, ())) fun (y : (Bool × Unit) × Unit) =>
 sel y.1.1
 (bnd (VF.impl_BalanceOf k a0.2.2.1 [83, 84, 79, 67, 75] 999) fun (y : (Int × Unit) × Unit) =>
 bnd (VF.impl_StockWorth k (a0.1, a0.2.1, a0.2.2.1, ())) fun (y_1 : (Int × Unit) × Unit) =>
 sel (decide (y.1.1 = y_1.1.1))
 (bnd (VF.impl_BalanceOf k a0.2.2.1 [87, 79, 82, 75] 999) fun (y : (Int × Unit) × Unit) =>
 some ((decide (y.1.1 = a0.2.1), ()), ()))
 (some ((false, ()), ())))
 (some ((false, ()), ()))
def VF.spec_WorthOf.j0 (d : Int) : Option ((Int × Unit) × Unit) :=
 some ((d, ()), ())
def VF.spec_WorthOf.l1 (k : Nat) (a0 : List TLay) (J : Int → Option ((Int × Unit) × Unit)) (ih : Int × Int → Option ((Int × Unit) × Unit)) (d : Int × Int) : Option ((Int × Unit) × Unit) :=
 sel (decide (d.2 < (List.length a0 : Int)))
 (bnd (VF.spec_AreLayers k a0) fun (y : (Bool × Unit) × Unit) =>
 sel y.1.1
 (grd (inb a0 d.2)
 (grd (inb a0 d.2)
 (grd (inb a0 d.2)
 (bnd
 (VF.spec_l31Cost k
 ((rdL a0 d.2 (0, 0, 0, ())).1, (rdL a0 d.2 (0, 0, 0, ())).2.1,
 (rdL a0 d.2 (0, 0, 0, ())).2.2.1, ())
 (rdL a0 d.2 (0, 0, 0, ())).2.2.1)
 fun (y : (Int × Unit) × Unit) =>
 ih
 (IntKind.wrap IntKind.i64 (IntKind.wrap IntKind.i64 (d.1 + (rdL a0 d.2 (0, 0, 0, ())).2.1) - y.1.1),
 IntKind.wrap IntKind.i64 (d.2 + 1))))))
 (J d.1))
 (J d.1)
def VF.spec_WorthOf (k : Nat) (a0 : List TLay) : Option ((Int × Unit) × Unit) :=
 join VF.spec_WorthOf.j0 fun (J : Int → Option ((Int × Unit) × Unit)) => iter (VF.spec_WorthOf.l1 k a0 J) k (0, 0)
def VF.spec_StockWorth.j0 (d : Int) : Option ((Int × Unit) × Unit) :=
 some ((d, ()), ())
def VF.spec_StockWorth.l1 (k : Nat) (J : Int → Option ((Int × Unit) × Unit)) (ih : (List TShelf × Int × List TDoc) ×
 Int × Int →
 Option ((Int × Unit) × Unit)) (d : (List TShelf × Int × List TDoc) × Int × Int) : Option ((Int × Unit) × Unit) :=
 sel (decide (d.2.2 < (List.length d.1.1 : Int)))
 (bnd (VF.spec_AreBooks k (d.1.1, d.1.2.1, d.1.2.2, ())) fun (y : (Bool × Unit) × Unit) =>
 sel y.1.1
 (grd (inb d.1.1 d.2.2)
 (bnd (VF.spec_WorthOf k (rdL d.1.1 d.2.2 ([], [], [], ())).2.2.1) fun (y : (Int × Unit) × Unit) =>
 ih ((d.1.1, d.1.2.1, d.1.2.2), IntKind.wrap IntKind.i64 (d.2.1 + y.1.1), IntKind.wrap IntKind.i64 (d.2.2 + 1))))
 (J d.2.1))
 (J d.2.1)
def VF.spec_StockWorth (k : Nat) (a0 : List TShelf × Int × List TDoc × Unit) : Option ((Int × Unit) × Unit) :=
 join VF.spec_StockWorth.j0 fun (J : Int → Option ((Int × Unit) × Unit)) =>
 iter (VF.spec_StockWorth.l1 k J) k ((a0.1, a0.2.1, a0.2.2.1), 0, 0)
def VF.spec_BooksAgree (k : Nat) (a0 : List TShelf × Int × List TDoc × Unit) : Option ((Bool × Unit) × Unit) :=
 bnd (VF.spec_AreBooks k (a0.1, a0.2.1, a0.2.2.1, ())) fun (y : (Bool × Unit) × Unit) =>
 sel y.1.1
 (bnd (VF.spec_BalanceOf k a0.2.2.1 [83, 84, 79, 67, 75] 999) fun (y : (Int × Unit) × Unit) =>
 bnd (VF.spec_StockWorth k (a0.1, a0.2.1, a0.2.2.1, ())) fun (y_1 : (Int × Unit) × Unit) =>
 sel (decide (y.1.1 = y_1.1.1))
 (bnd (VF.spec_BalanceOf k a0.2.2.1 [87, 79, 82, 75] 999) fun (y : (Int × Unit) × Unit) =>
 some ((decide (y.1.1 = a0.2.1), ()), ()))
 (some ((false, ()), ())))
 (some ((false, ()), ()))
def VF.laws_FnArrival.j0 (k : Nat) (d : List TEv × List TEv) : Option ((Bool × Unit) × Unit) :=
 bnd (VF.impl_BooksOf k d.1)
 fun
 (y :
 (TBooks ×
 List Int × Unit) ×
 Unit) =>
 bnd (VF.impl_BooksOf k d.2)
 fun
 (y_1 :
 (TBooks ×
 List Int × Unit) ×
 Unit) =>
 bnd
 (VF.impl_SameBooks k (y.1.1.1, y.1.1.2.1, y.1.1.2.2.1, ())
 (y_1.1.1.1, y_1.1.1.2.1, y_1.1.1.2.2.1, ()))
 fun (y_2 : (Bool × Unit) × Unit) =>
 sel y_2.1.1
 (bnd
 (VF.spec_SameBooks k (y.1.1.1, y.1.1.2.1, y.1.1.2.2.1, ())
 (y_1.1.1.1, y_1.1.1.2.1, y_1.1.1.2.2.1, ()))
 fun (y_3 : (Bool × Unit) × Unit) =>
 sel y_3.1.1
 (bnd (VF.laws_sameInts k y.1.2.1 y_1.1.2.1) fun (y_4 : (Bool × Unit) × Unit) =>
 sel y_4.1.1
 (bnd (VF.impl_SortEvents k d.1) fun (y_5 : (List TEv × Unit) × Unit) =>
 bnd (VF.impl_SortEvents k d.2) fun (y_6 : (List TEv × Unit) × Unit) =>
 bnd (VF.laws_sameEvents k y_5.1.1 y_6.1.1) fun (y_7 : (Bool × Unit) × Unit) =>
 sel y_7.1.1
 (bnd (VF.impl_BooksAgree k (y.1.1.1, y.1.1.2.1, y.1.1.2.2.1, ()))
 fun (y_8 : (Bool × Unit) × Unit) =>
 sel y_8.1.1
 (bnd (VF.spec_BooksAgree k (y.1.1.1, y.1.1.2.1, y.1.1.2.2.1, ()))
 fun (y : (Bool × Unit) × Unit) => some ((y.1.1, ()), ()))
 (some ((false, ()), ())))
 (some ((false, ()), ())))
 (some ((false, ()), ())))
 (some ((false, ()), ())))
 (some ((false, ()), ()))
def VF.laws_FnArrival.l1 (J : List TEv × List TEv →
 Option ((Bool × Unit) × Unit)) (ih : List TEv × List TEv × Int →
 Option ((Bool × Unit) × Unit)) (d : List TEv × List TEv × Int) : Option ((Bool × Unit) × Unit) :=
 sel (decide (0 ≤ d.2.2))
 (grd (inb d.1 d.2.2)
 (grd (fits (List.length d.2.1 + 1) 64)
 (sel (decide (Int.tmod d.2.2 3 = 0))
 (grd (inb d.1 (IntKind.wrap IntKind.i64 (IntKind.wrap IntKind.i64 ((List.length d.1 : Int) - 1) - d.2.2)))
 (grd
 (fits
 (List.length
 (d.2.1 ++
 [((rdL d.1 d.2.2 (0, 0, 0, [], 0, 0, 0, ())).1, (rdL d.1 d.2.2 (0, 0, 0, [], 0, 0, 0, ())).2.1,
 (rdL d.1 d.2.2 (0, 0, 0, [], 0, 0, 0, ())).2.2.1,
 (rdL d.1 d.2.2 (0, 0, 0, [], 0, 0, 0, ())).2.2.2.1,
 (rdL d.1 d.2.2 (0, 0, 0, [], 0, 0, 0, ())).2.2.2.2.1,
 (rdL d.1 d.2.2 (0, 0, 0, [], 0, 0, 0, ())).2.2.2.2.2.1,
 (rdL d.1 d.2.2 (0, 0, 0, [], 0, 0, 0, ())).2.2.2.2.2.2.1, ())]) +
 1)
 64)
 (ih
 (d.1,
 d.2.1 ++
 [((rdL d.1 d.2.2 (0, 0, 0, [], 0, 0, 0, ())).1, (rdL d.1 d.2.2 (0, 0, 0, [], 0, 0, 0, ())).2.1,
 (rdL d.1 d.2.2 (0, 0, 0, [], 0, 0, 0, ())).2.2.1,
 (rdL d.1 d.2.2 (0, 0, 0, [], 0, 0, 0, ())).2.2.2.1,
 (rdL d.1 d.2.2 (0, 0, 0, [], 0, 0, 0, ())).2.2.2.2.1,
 (rdL d.1 d.2.2 (0, 0, 0, [], 0, 0, 0, ())).2.2.2.2.2.1,
 (rdL d.1 d.2.2 (0, 0, 0, [], 0, 0, 0, ())).2.2.2.2.2.2.1, ())] ++
 [((rdL d.1 (IntKind.wrap IntKind.i64 (IntKind.wrap IntKind.i64 ((List.length d.1 : Int) - 1) - d.2.2))
 (0, 0, 0, [], 0, 0, 0, ())).1,
 (rdL d.1 (IntKind.wrap IntKind.i64 (IntKind.wrap IntKind.i64 ((List.length d.1 : Int) - 1) - d.2.2))
 (0, 0, 0, [], 0, 0, 0, ())).2.1,
 (rdL d.1 (IntKind.wrap IntKind.i64 (IntKind.wrap IntKind.i64 ((List.length d.1 : Int) - 1) - d.2.2))
 (0, 0, 0, [], 0, 0, 0, ())).2.2.1,
 (rdL d.1 (IntKind.wrap IntKind.i64 (IntKind.wrap IntKind.i64 ((List.length d.1 : Int) - 1) - d.2.2))
 (0, 0, 0, [], 0, 0, 0, ())).2.2.2.1,
 (rdL d.1 (IntKind.wrap IntKind.i64 (IntKind.wrap IntKind.i64 ((List.length d.1 : Int) - 1) - d.2.2))
 (0, 0, 0, [], 0, 0, 0, ())).2.2.2.2.1,
 (rdL d.1 (IntKind.wrap IntKind.i64 (IntKind.wrap IntKind.i64 ((List.length d.1 : Int) - 1) - d.2.2))
 (0, 0, 0, [], 0, 0, 0, ())).2.2.2.2.2.1,
 (rdL d.1 (IntKind.wrap IntKind.i64 (IntKind.wrap IntKind.i64 ((List.length d.1 : Int) - 1) - d.2.2))
 (0, 0, 0, [], 0, 0, 0, ())).2.2.2.2.2.2.1,
 ())],
 IntKind.wrap IntKind.i64 (d.2.2 - 1)))))
 (ih
 (d.1,
 d.2.1 ++
 [((rdL d.1 d.2.2 (0, 0, 0, [], 0, 0, 0, ())).1, (rdL d.1 d.2.2 (0, 0, 0, [], 0, 0, 0, ())).2.1,
 (rdL d.1 d.2.2 (0, 0, 0, [], 0, 0, 0, ())).2.2.1,
 (rdL d.1 d.2.2 (0, 0, 0, [], 0, 0, 0, ())).2.2.2.1,
 (rdL d.1 d.2.2 (0, 0, 0, [], 0, 0, 0, ())).2.2.2.2.1,
 (rdL d.1 d.2.2 (0, 0, 0, [], 0, 0, 0, ())).2.2.2.2.2.1,
 (rdL d.1 d.2.2 (0, 0, 0, [], 0, 0, 0, ())).2.2.2.2.2.2.1, ())],
 IntKind.wrap IntKind.i64 (d.2.2 - 1))))))
 (J (d.1, d.2.1))
def VF.laws_FnArrival (k : Nat) (a0 : List Int) : Option ((Bool × Unit) × Unit) :=
 bnd (VF.laws_big k a0) fun (y : (Bool × Unit) × Unit) =>
 sel y.1.1 (some ((true, ()), ()))
 (bnd (VF.spec_DrawBooksOf k a0) fun (y : (List TEv × Unit) × Unit) =>
 join (VF.laws_FnArrival.j0 k)
 fun
 (J :
 List TEv × List TEv →
 Option ((Bool × Unit) × Unit)) =>
 iter (VF.laws_FnArrival.l1 J) k (y.1.1, [], IntKind.wrap IntKind.i64 ((List.length y.1.1 : Int) - 1)))
def VF.spec_DrawDropEvent (k : Nat) (a0 : List Int) : Option ((List TEv × Int × Unit) × Unit) :=
 bnd (VF.spec_l1New k a0) fun (y : (TCur × Unit) × Unit) =>
 bnd (VF.spec_l37Events k (y.1.1.1, y.1.1.2.1, y.1.1.2.2.1, ()))
 fun (y : (List TEv × Unit) × TCur × Unit) =>
 bnd (VF.spec_l1Below k (y.2.1.1, y.2.1.2.1, y.2.1.2.2.1, ()) 9)
 fun (y_1 : (Int × Unit) × TCur × Unit) => some ((y.1.1, y_1.1.1, ()), ())
def VF.impl_DropEvent.j0 (d : List TEv) : Option ((List TEv × Unit) × Unit) :=
 some ((d, ()), ())
def VF.impl_DropEvent.l1 (a1 : Int) (J : List TEv →
 Option ((List TEv × Unit) × Unit)) (ih : List TEv × List TEv × Int × Int →
 Option ((List TEv × Unit) × Unit)) (d : List TEv × List TEv × Int × Int) : Option ((List TEv × Unit) × Unit) :=
 sel (decide (d.2.2.2 < d.2.2.1))
 (grd (inb d.2.1 d.2.2.2)
 (sel (!decide ((rdL d.2.1 d.2.2.2 (0, 0, 0, [], 0, 0, 0, ())).1 = a1))
 (grd (fits (List.length d.1 + 1) 64)
 (ih
 (d.1 ++
 [((rdL d.2.1 d.2.2.2 (0, 0, 0, [], 0, 0, 0, ())).1,
 (rdL d.2.1 d.2.2.2 (0, 0, 0, [], 0, 0, 0, ())).2.1,
 (rdL d.2.1 d.2.2.2 (0, 0, 0, [], 0, 0, 0, ())).2.2.1,
 (rdL d.2.1 d.2.2.2 (0, 0, 0, [], 0, 0, 0, ())).2.2.2.1,
 (rdL d.2.1 d.2.2.2 (0, 0, 0, [], 0, 0, 0, ())).2.2.2.2.1,
 (rdL d.2.1 d.2.2.2 (0, 0, 0, [], 0, 0, 0, ())).2.2.2.2.2.1,
 (rdL d.2.1 d.2.2.2 (0, 0, 0, [], 0, 0, 0, ())).2.2.2.2.2.2.1, ())],
 d.2.1, d.2.2.1, IntKind.wrap IntKind.i64 (d.2.2.2 + 1))))
 (ih (d.1, d.2.1, d.2.2.1, IntKind.wrap IntKind.i64 (d.2.2.2 + 1)))))
 (J d.1)
def VF.impl_DropEvent (k : Nat) (a0 : List TEv) (a1 : Int) : Option ((List TEv × Unit) × Unit) :=
 join VF.impl_DropEvent.j0
 fun
 (J :
 List TEv →
 Option ((List TEv × Unit) × Unit)) =>
 iter (VF.impl_DropEvent.l1 a1 J) k ([], a0, (List.length a0 : Int), 0)
