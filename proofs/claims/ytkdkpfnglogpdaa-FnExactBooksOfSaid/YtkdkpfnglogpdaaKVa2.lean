/- More functions, as printed. -/
import Derived.Test.YtkdkpfnglogpdaaKVa
set_option linter.unusedVariables false
open Go VM
def VF.impl_sameDocument.l1 (J : Unit → Option ((Bool × Unit) × Unit)) (ih : (Int × Int × List TEnt) × (Int × Int × List TEnt) × Int × Int → Option ((Bool × Unit) × Unit)) (d : (Int × Int × List TEnt) × (Int × Int × List TEnt) × Int × Int) : Option ((Bool × Unit) × Unit) :=
 sel (decide (d.2.2.2 < d.2.2.1))
 (grd (inb d.1.2.2 d.2.2.2)
 (grd (inb d.2.1.2.2 d.2.2.2)
 (sel
 (!(decide ((rdL d.1.2.2 d.2.2.2 ([], 0, ())).1 = (rdL d.2.1.2.2 d.2.2.2 ([], 0, ())).1) &&
 (decide
 ((rdL d.1.2.2 d.2.2.2 ([], 0, ())).2.1 = (rdL d.2.1.2.2 d.2.2.2 ([], 0, ())).2.1) &&
 true)))
 (some ((false, ()), ()))
 (ih
 ((d.1.1, d.1.2.1, d.1.2.2), (d.2.1.1, d.2.1.2.1, d.2.1.2.2), d.2.2.1,
 IntKind.wrap IntKind.i64 (d.2.2.2 + 1))))))
 (J ())
def VF.impl_sameDocument.j2 (k : Nat) (d : (Int × Int × List TEnt) × Int × Int × List TEnt) : Option ((Bool × Unit) × Unit) :=
 join VF.impl_sameDocument.j0 fun (J : Unit → Option ((Bool × Unit) × Unit)) =>
 iter (VF.impl_sameDocument.l1 J) k
 ((d.1.1, d.1.2.1, d.1.2.2), (d.2.1, d.2.2.1, d.2.2.2), (List.length d.1.2.2 : Int), 0)
def VF.impl_sameDocument (k : Nat) (a0 : Int × Int × List TEnt × Unit) (a1 : Int × Int × List TEnt × Unit) : Option ((Bool × Unit) × Unit) :=
 join (VF.impl_sameDocument.j2 k)
 fun (J : (Int × Int × List TEnt) × Int × Int × List TEnt → Option ((Bool × Unit) × Unit)) =>
 sel (!decide (a0.1 = a1.1)) (some ((false, ()), ()))
 (sel (!decide (a0.2.1 = a1.2.1)) (some ((false, ()), ()))
 (sel (!decide ((List.length a0.2.2.1 : Int) = (List.length a1.2.2.1 : Int))) (some ((false, ()), ()))
 (J ((a0.1, a0.2.1, a0.2.2.1), a1.1, a1.2.1, a1.2.2.1))))
def VF.impl_SameBooks.j0 (d : Unit) : Option ((Bool × Unit) × Unit) :=
 some ((true, ()), ())
def VF.impl_SameBooks.l1 (k : Nat) (J : Unit → Option ((Bool × Unit) × Unit)) (ih : (List TShelf × Int × List TDoc) ×
 (List TShelf × Int × List TDoc) ×
 Int × Int →
 Option ((Bool × Unit) × Unit)) (d : (List TShelf × Int × List TDoc) ×
 (List TShelf × Int × List TDoc) ×
 Int × Int) : Option ((Bool × Unit) × Unit) :=
 sel (decide (d.2.2.2 < d.2.2.1))
 (grd (inb d.1.2.2 d.2.2.2)
 (grd (inb d.2.1.2.2 d.2.2.2)
 (bnd
 (VF.impl_sameDocument k
 ((rdL d.1.2.2 d.2.2.2 (0, 0, [], ())).1, (rdL d.1.2.2 d.2.2.2 (0, 0, [], ())).2.1,
 (rdL d.1.2.2 d.2.2.2 (0, 0, [], ())).2.2.1, ())
 ((rdL d.2.1.2.2 d.2.2.2 (0, 0, [], ())).1, (rdL d.2.1.2.2 d.2.2.2 (0, 0, [], ())).2.1,
 (rdL d.2.1.2.2 d.2.2.2 (0, 0, [], ())).2.2.1, ()))
 fun (y : (Bool × Unit) × Unit) =>
 sel (!y.1.1) (some ((false, ()), ()))
 (ih
 ((d.1.1, d.1.2.1, d.1.2.2), (d.2.1.1, d.2.1.2.1, d.2.1.2.2), d.2.2.1,
 IntKind.wrap IntKind.i64 (d.2.2.2 + 1))))))
 (J ())
def VF.impl_SameBooks.j2 (k : Nat) (d : (List TShelf × Int × List TDoc) ×
 List TShelf × Int × List TDoc) : Option ((Bool × Unit) × Unit) :=
 join VF.impl_SameBooks.j0 fun (J : Unit → Option ((Bool × Unit) × Unit)) =>
 iter (VF.impl_SameBooks.l1 k J) k
 ((d.1.1, d.1.2.1, d.1.2.2), (d.2.1, d.2.2.1, d.2.2.2), (List.length d.1.2.2 : Int), 0)
def VF.impl_SameBooks.l3 (k : Nat) (J : (List TShelf × Int × List TDoc) ×
 List TShelf × Int × List TDoc →
 Option ((Bool × Unit) × Unit)) (ih : (List TShelf × Int × List TDoc) ×
 (List TShelf × Int × List TDoc) ×
 Int × Int →
 Option ((Bool × Unit) × Unit)) (d : (List TShelf × Int × List TDoc) ×
 (List TShelf × Int × List TDoc) ×
 Int × Int) : Option ((Bool × Unit) × Unit) :=
 sel (decide (d.2.2.2 < d.2.2.1))
 (grd (inb d.1.1 d.2.2.2)
 (grd (inb d.2.1.1 d.2.2.2)
 (bnd
 (VF.impl_sameShelf k
 ((rdL d.1.1 d.2.2.2 ([], [], [], ())).1, (rdL d.1.1 d.2.2.2 ([], [], [], ())).2.1,
 (rdL d.1.1 d.2.2.2 ([], [], [], ())).2.2.1, ())
 ((rdL d.2.1.1 d.2.2.2 ([], [], [], ())).1, (rdL d.2.1.1 d.2.2.2 ([], [], [], ())).2.1,
 (rdL d.2.1.1 d.2.2.2 ([], [], [], ())).2.2.1, ()))
 fun (y : (Bool × Unit) × Unit) =>
 sel (!y.1.1) (some ((false, ()), ()))
 (ih
 ((d.1.1, d.1.2.1, d.1.2.2), (d.2.1.1, d.2.1.2.1, d.2.1.2.2), d.2.2.1,
 IntKind.wrap IntKind.i64 (d.2.2.2 + 1))))))
 (J ((d.1.1, d.1.2.1, d.1.2.2), d.2.1.1, d.2.1.2.1, d.2.1.2.2))
def VF.impl_SameBooks.j4 (k : Nat) (d : (List TShelf × Int × List TDoc) ×
 List TShelf × Int × List TDoc) : Option ((Bool × Unit) × Unit) :=
 join (VF.impl_SameBooks.j2 k)
 fun
 (J :
 (List TShelf × Int × List TDoc) ×
 List TShelf × Int × List TDoc →
 Option ((Bool × Unit) × Unit)) =>
 iter (VF.impl_SameBooks.l3 k J) k
 ((d.1.1, d.1.2.1, d.1.2.2), (d.2.1, d.2.2.1, d.2.2.2), (List.length d.1.1 : Int), 0)
def VF.impl_SameBooks (k : Nat) (a0 : List TShelf × Int × List TDoc × Unit) (a1 : List TShelf × Int × List TDoc × Unit) : Option ((Bool × Unit) × Unit) :=
 join (VF.impl_SameBooks.j4 k)
 fun
 (J :
 (List TShelf × Int × List TDoc) ×
 List TShelf × Int × List TDoc →
 Option ((Bool × Unit) × Unit)) =>
 sel (!decide (a0.2.1 = a1.2.1)) (some ((false, ()), ()))
 (sel (!decide ((List.length a0.1 : Int) = (List.length a1.1 : Int))) (some ((false, ()), ()))
 (sel (!decide ((List.length a0.2.2.1 : Int) = (List.length a1.2.2.1 : Int))) (some ((false, ()), ()))
 (J ((a0.1, a0.2.1, a0.2.2.1), a1.1, a1.2.1, a1.2.2.1))))
def VF.spec_SameBooks.j0 (d : Unit) : Option ((Bool × Unit) × Unit) :=
 some ((true, ()), ())
def VF.spec_SameBooks.j1 (ih : (List TShelf × Int × List TDoc) ×
 (List TShelf × Int × List TDoc) × Int →
 Option ((Bool × Unit) × Unit)) (d : (List TShelf × Int × List TDoc) ×
 (List TShelf × Int × List TDoc) × Int) : Option ((Bool × Unit) × Unit) :=
 ih ((d.1.1, d.1.2.1, d.1.2.2), (d.2.1.1, d.2.1.2.1, d.2.1.2.2), IntKind.wrap IntKind.i64 (d.2.2 + 1))
def VF.spec_SameBooks.l2 (J : (List TShelf × Int × List TDoc) ×
 (List TShelf × Int × List TDoc) × Int →
 Option ((Bool × Unit) × Unit)) (ih : (List TShelf × Int × List TDoc) ×
 (List TShelf × Int × List TDoc) ×
 Int × (Int × Int × List TEnt) × (Int × Int × List TEnt) × Int →
 Option ((Bool × Unit) × Unit)) (d : (List TShelf × Int × List TDoc) ×
 (List TShelf × Int × List TDoc) ×
 Int × (Int × Int × List TEnt) × (Int × Int × List TEnt) × Int) : Option ((Bool × Unit) × Unit) :=
 sel (decide (d.2.2.2.2.2 < (List.length d.2.2.2.1.2.2 : Int)))
 (grd (inb d.2.2.2.1.2.2 d.2.2.2.2.2)
 (grd (inb d.2.2.2.2.1.2.2 d.2.2.2.2.2)
 (sel
 (!(decide
 ((rdL d.2.2.2.1.2.2 d.2.2.2.2.2 ([], 0, ())).1 =
 (rdL d.2.2.2.2.1.2.2 d.2.2.2.2.2 ([], 0, ())).1) &&
 (decide
 ((rdL d.2.2.2.1.2.2 d.2.2.2.2.2 ([], 0, ())).2.1 =
 (rdL d.2.2.2.2.1.2.2 d.2.2.2.2.2 ([], 0, ())).2.1) &&
 true)))
 (some ((false, ()), ()))
 (ih
 ((d.1.1, d.1.2.1, d.1.2.2), (d.2.1.1, d.2.1.2.1, d.2.1.2.2), d.2.2.1,
 (d.2.2.2.1.1, d.2.2.2.1.2.1, d.2.2.2.1.2.2),
 (d.2.2.2.2.1.1, d.2.2.2.2.1.2.1, d.2.2.2.2.1.2.2),
 IntKind.wrap IntKind.i64 (d.2.2.2.2.2 + 1))))))
 (J ((d.1.1, d.1.2.1, d.1.2.2), (d.2.1.1, d.2.1.2.1, d.2.1.2.2), d.2.2.1))
def VF.spec_SameBooks.j3 (k : Nat) (J : (List TShelf × Int × List TDoc) ×
 (List TShelf × Int × List TDoc) × Int →
 Option ((Bool × Unit) × Unit)) (d : (List TShelf × Int × List TDoc) ×
 (List TShelf × Int × List TDoc) ×
 Int × (Int × Int × List TEnt) × Int × Int × List TEnt) : Option ((Bool × Unit) × Unit) :=
 iter (VF.spec_SameBooks.l2 J) k
 ((d.1.1, d.1.2.1, d.1.2.2), (d.2.1.1, d.2.1.2.1, d.2.1.2.2), d.2.2.1,
 (d.2.2.2.1.1, d.2.2.2.1.2.1, d.2.2.2.1.2.2),
 (d.2.2.2.2.1, d.2.2.2.2.2.1, d.2.2.2.2.2.2), 0)
def VF.spec_SameBooks.l4 (k : Nat) (J : Unit → Option ((Bool × Unit) × Unit)) (ih : (List TShelf × Int × List TDoc) ×
 (List TShelf × Int × List TDoc) × Int →
 Option ((Bool × Unit) × Unit)) (d : (List TShelf × Int × List TDoc) ×
 (List TShelf × Int × List TDoc) × Int) : Option ((Bool × Unit) × Unit) :=
 sel (decide (d.2.2 < (List.length d.1.2.2 : Int)))
 (join (VF.spec_SameBooks.j1 ih)
 fun
 (J :
 (List TShelf × Int × List TDoc) ×
 (List TShelf ×
 Int × List TDoc) ×
 Int →
 Option ((Bool × Unit) × Unit)) =>
 grd (inb d.1.2.2 d.2.2)
 (grd (inb d.2.1.2.2 d.2.2)
 (join (VF.spec_SameBooks.j3 k J)
 fun
 (J :
 (List TShelf ×
 Int × List TDoc) ×
 (List TShelf ×
 Int × List TDoc) ×
 Int × (Int × Int × List TEnt) × Int × Int × List TEnt →
 Option ((Bool × Unit) × Unit)) =>
 sel (!decide ((rdL d.1.2.2 d.2.2 (0, 0, [], ())).1 = (rdL d.2.1.2.2 d.2.2 (0, 0, [], ())).1))
 (some ((false, ()), ()))
 (sel
 (!decide
 ((rdL d.1.2.2 d.2.2 (0, 0, [], ())).2.1 = (rdL d.2.1.2.2 d.2.2 (0, 0, [], ())).2.1))
 (some ((false, ()), ()))
 (sel
 (!decide
 ((List.length (rdL d.1.2.2 d.2.2 (0, 0, [], ())).2.2.1 : Int) =
 (List.length (rdL d.2.1.2.2 d.2.2 (0, 0, [], ())).2.2.1 : Int)))
 (some ((false, ()), ()))
 (J
 ((d.1.1, d.1.2.1, d.1.2.2), (d.2.1.1, d.2.1.2.1, d.2.1.2.2), d.2.2,
 ((rdL d.1.2.2 d.2.2 (0, 0, [], ())).1, (rdL d.1.2.2 d.2.2 (0, 0, [], ())).2.1,
 (rdL d.1.2.2 d.2.2 (0, 0, [], ())).2.2.1),
 (rdL d.2.1.2.2 d.2.2 (0, 0, [], ())).1, (rdL d.2.1.2.2 d.2.2 (0, 0, [], ())).2.1,
 (rdL d.2.1.2.2 d.2.2 (0, 0, [], ())).2.2.1)))))))
 (J ())
def VF.spec_SameBooks.j5 (k : Nat) (d : (List TShelf × Int × List TDoc) ×
 List TShelf × Int × List TDoc) : Option ((Bool × Unit) × Unit) :=
 join VF.spec_SameBooks.j0 fun (J : Unit → Option ((Bool × Unit) × Unit)) =>
 iter (VF.spec_SameBooks.l4 k J) k ((d.1.1, d.1.2.1, d.1.2.2), (d.2.1, d.2.2.1, d.2.2.2), 0)
def VF.spec_SameBooks.j6 (ih : (List TShelf × Int × List TDoc) ×
 (List TShelf × Int × List TDoc) × Int →
 Option ((Bool × Unit) × Unit)) (d : (List TShelf × Int × List TDoc) ×
 (List TShelf × Int × List TDoc) × Int) : Option ((Bool × Unit) × Unit) :=
 ih ((d.1.1, d.1.2.1, d.1.2.2), (d.2.1.1, d.2.1.2.1, d.2.1.2.2), IntKind.wrap IntKind.i64 (d.2.2 + 1))
def VF.spec_SameBooks.l7 (J : (List TShelf × Int × List TDoc) ×
 (List TShelf × Int × List TDoc) × Int →
 Option ((Bool × Unit) × Unit)) (ih : (List TShelf × Int × List TDoc) ×
 (List TShelf × Int × List TDoc) ×
 Int × (List UInt8 × List Int × List TLay) × (List UInt8 × List Int × List TLay) × Int →
 Option ((Bool × Unit) × Unit)) (d : (List TShelf × Int × List TDoc) ×
 (List TShelf × Int × List TDoc) ×
 Int × (List UInt8 × List Int × List TLay) × (List UInt8 × List Int × List TLay) × Int) : Option ((Bool × Unit) × Unit) :=
 sel (decide (d.2.2.2.2.2 < (List.length d.2.2.2.1.2.2 : Int)))
 (grd (inb d.2.2.2.1.2.2 d.2.2.2.2.2)
 (grd (inb d.2.2.2.2.1.2.2 d.2.2.2.2.2)
 (sel
 (!(decide
 ((rdL d.2.2.2.1.2.2 d.2.2.2.2.2 (0, 0, 0, ())).1 =
 (rdL d.2.2.2.2.1.2.2 d.2.2.2.2.2 (0, 0, 0, ())).1) &&
 (decide
 ((rdL d.2.2.2.1.2.2 d.2.2.2.2.2 (0, 0, 0, ())).2.1 =
 (rdL d.2.2.2.2.1.2.2 d.2.2.2.2.2 (0, 0, 0, ())).2.1) &&
 (decide
 ((rdL d.2.2.2.1.2.2 d.2.2.2.2.2 (0, 0, 0, ())).2.2.1 =
 (rdL d.2.2.2.2.1.2.2 d.2.2.2.2.2 (0, 0, 0, ())).2.2.1) &&
 true))))
 (some ((false, ()), ()))
 (ih
 ((d.1.1, d.1.2.1, d.1.2.2), (d.2.1.1, d.2.1.2.1, d.2.1.2.2), d.2.2.1,
 (d.2.2.2.1.1, d.2.2.2.1.2.1, d.2.2.2.1.2.2),
 (d.2.2.2.2.1.1, d.2.2.2.2.1.2.1, d.2.2.2.2.1.2.2),
 IntKind.wrap IntKind.i64 (d.2.2.2.2.2 + 1))))))
 (J ((d.1.1, d.1.2.1, d.1.2.2), (d.2.1.1, d.2.1.2.1, d.2.1.2.2), d.2.2.1))
def VF.spec_SameBooks.j8 (k : Nat) (J : (List TShelf × Int × List TDoc) ×
 (List TShelf × Int × List TDoc) × Int →
 Option ((Bool × Unit) × Unit)) (d : (List TShelf × Int × List TDoc) ×
 (List TShelf × Int × List TDoc) ×
 Int × (List UInt8 × List Int × List TLay) × List UInt8 × List Int × List TLay) : Option ((Bool × Unit) × Unit) :=
 iter (VF.spec_SameBooks.l7 J) k
 ((d.1.1, d.1.2.1, d.1.2.2), (d.2.1.1, d.2.1.2.1, d.2.1.2.2), d.2.2.1,
 (d.2.2.2.1.1, d.2.2.2.1.2.1, d.2.2.2.1.2.2),
 (d.2.2.2.2.1, d.2.2.2.2.2.1, d.2.2.2.2.2.2), 0)
def VF.spec_SameBooks.l9 (J : (List TShelf × Int × List TDoc) ×
 (List TShelf × Int × List TDoc) ×
 Int × (List UInt8 × List Int × List TLay) × List UInt8 × List Int × List TLay →
 Option ((Bool × Unit) × Unit)) (ih : (List TShelf × Int × List TDoc) ×
 (List TShelf × Int × List TDoc) ×
 Int × (List UInt8 × List Int × List TLay) × (List UInt8 × List Int × List TLay) × Int →
 Option ((Bool × Unit) × Unit)) (d : (List TShelf × Int × List TDoc) ×
 (List TShelf × Int × List TDoc) ×
 Int × (List UInt8 × List Int × List TLay) × (List UInt8 × List Int × List TLay) × Int) : Option ((Bool × Unit) × Unit) :=
 sel (decide (d.2.2.2.2.2 < (List.length d.2.2.2.1.2.1 : Int)))
 (grd (inb d.2.2.2.1.2.1 d.2.2.2.2.2)
 (grd (inb d.2.2.2.2.1.2.1 d.2.2.2.2.2)
 (sel (!decide (rdL d.2.2.2.1.2.1 d.2.2.2.2.2 0 = rdL d.2.2.2.2.1.2.1 d.2.2.2.2.2 0))
 (some ((false, ()), ()))
 (ih
 ((d.1.1, d.1.2.1, d.1.2.2), (d.2.1.1, d.2.1.2.1, d.2.1.2.2), d.2.2.1,
 (d.2.2.2.1.1, d.2.2.2.1.2.1, d.2.2.2.1.2.2),
 (d.2.2.2.2.1.1, d.2.2.2.2.1.2.1, d.2.2.2.2.1.2.2),
 IntKind.wrap IntKind.i64 (d.2.2.2.2.2 + 1))))))
 (J
 ((d.1.1, d.1.2.1, d.1.2.2), (d.2.1.1, d.2.1.2.1, d.2.1.2.2), d.2.2.1,
 (d.2.2.2.1.1, d.2.2.2.1.2.1, d.2.2.2.1.2.2), d.2.2.2.2.1.1, d.2.2.2.2.1.2.1,
 d.2.2.2.2.1.2.2))
def VF.spec_SameBooks.j10 (k : Nat) (J : (List TShelf × Int × List TDoc) ×
 (List TShelf × Int × List TDoc) × Int →
 Option ((Bool × Unit) × Unit)) (d : (List TShelf × Int × List TDoc) ×
 (List TShelf × Int × List TDoc) ×
 Int × (List UInt8 × List Int × List TLay) × List UInt8 × List Int × List TLay) : Option ((Bool × Unit) × Unit) :=
 join (VF.spec_SameBooks.j8 k J)
 fun
 (J :
 (List TShelf × Int × List TDoc) ×
 (List TShelf × Int × List TDoc) ×
 Int × (List UInt8 × List Int × List TLay) × List UInt8 × List Int × List TLay →
 Option ((Bool × Unit) × Unit)) =>
 iter (VF.spec_SameBooks.l9 J) k
 ((d.1.1, d.1.2.1, d.1.2.2), (d.2.1.1, d.2.1.2.1, d.2.1.2.2), d.2.2.1,
 (d.2.2.2.1.1, d.2.2.2.1.2.1, d.2.2.2.1.2.2),
 (d.2.2.2.2.1, d.2.2.2.2.2.1, d.2.2.2.2.2.2), 0)
def VF.spec_SameBooks.l11 (k : Nat) (J : (List TShelf × Int × List TDoc) ×
 List TShelf × Int × List TDoc →
 Option ((Bool × Unit) × Unit)) (ih : (List TShelf × Int × List TDoc) ×
 (List TShelf × Int × List TDoc) × Int →
 Option ((Bool × Unit) × Unit)) (d : (List TShelf × Int × List TDoc) ×
 (List TShelf × Int × List TDoc) × Int) : Option ((Bool × Unit) × Unit) :=
 sel (decide (d.2.2 < (List.length d.1.1 : Int)))
 (join (VF.spec_SameBooks.j6 ih)
 fun
 (J :
 (List TShelf × Int × List TDoc) ×
 (List TShelf ×
 Int × List TDoc) ×
 Int →
 Option ((Bool × Unit) × Unit)) =>
 grd (inb d.1.1 d.2.2)
 (grd (inb d.2.1.1 d.2.2)
 (join (VF.spec_SameBooks.j10 k J)
 fun
 (J :
 (List TShelf ×
 Int × List TDoc) ×
 (List TShelf ×
 Int × List TDoc) ×
 Int × (List UInt8 × List Int × List TLay) × List UInt8 × List Int × List TLay →
 Option ((Bool × Unit) × Unit)) =>
 sel (!decide ((rdL d.1.1 d.2.2 ([], [], [], ())).1 = (rdL d.2.1.1 d.2.2 ([], [], [], ())).1))
 (some ((false, ()), ()))
 (sel
 (!decide
 ((List.length (rdL d.1.1 d.2.2 ([], [], [], ())).2.1 : Int) =
 (List.length (rdL d.2.1.1 d.2.2 ([], [], [], ())).2.1 : Int)))
 (some ((false, ()), ()))
 (sel
 (!decide
 ((List.length (rdL d.1.1 d.2.2 ([], [], [], ())).2.2.1 : Int) =
 (List.length (rdL d.2.1.1 d.2.2 ([], [], [], ())).2.2.1 : Int)))
 (some ((false, ()), ()))
 (J
 ((d.1.1, d.1.2.1, d.1.2.2), (d.2.1.1, d.2.1.2.1, d.2.1.2.2), d.2.2,
 ((rdL d.1.1 d.2.2 ([], [], [], ())).1, (rdL d.1.1 d.2.2 ([], [], [], ())).2.1,
 (rdL d.1.1 d.2.2 ([], [], [], ())).2.2.1),
 (rdL d.2.1.1 d.2.2 ([], [], [], ())).1, (rdL d.2.1.1 d.2.2 ([], [], [], ())).2.1,
 (rdL d.2.1.1 d.2.2 ([], [], [], ())).2.2.1)))))))
 (J ((d.1.1, d.1.2.1, d.1.2.2), d.2.1.1, d.2.1.2.1, d.2.1.2.2))
def VF.spec_SameBooks.j12 (k : Nat) (d : (List TShelf × Int × List TDoc) ×
 List TShelf × Int × List TDoc) : Option ((Bool × Unit) × Unit) :=
 join (VF.spec_SameBooks.j5 k)
 fun
 (J :
 (List TShelf × Int × List TDoc) ×
 List TShelf × Int × List TDoc →
 Option ((Bool × Unit) × Unit)) =>
 iter (VF.spec_SameBooks.l11 k J) k ((d.1.1, d.1.2.1, d.1.2.2), (d.2.1, d.2.2.1, d.2.2.2), 0)
def VF.spec_SameBooks (k : Nat) (a0 : List TShelf × Int × List TDoc × Unit) (a1 : List TShelf × Int × List TDoc × Unit) : Option ((Bool × Unit) × Unit) :=
 join (VF.spec_SameBooks.j12 k)
 fun
 (J :
 (List TShelf × Int × List TDoc) ×
 List TShelf × Int × List TDoc →
 Option ((Bool × Unit) × Unit)) =>
 sel (!decide ((List.length a0.1 : Int) = (List.length a1.1 : Int))) (some ((false, ()), ()))
 (sel (!decide (a0.2.1 = a1.2.1)) (some ((false, ()), ()))
 (sel (!decide ((List.length a0.2.2.1 : Int) = (List.length a1.2.2.1 : Int))) (some ((false, ()), ()))
 (J ((a0.1, a0.2.1, a0.2.2.1), a1.1, a1.2.1, a1.2.2.1))))
def VF.impl_DropEvent.j0 (d : List TEv) : Option ((List TEv × Unit) × Unit) :=
 some ((d, ()), ())
def VF.impl_DropEvent.l1 (a1 : Int) (J : List TEv →
 Option ((List TEv × Unit) × Unit)) (ih : List TEv × List TEv × Int × Int →
 Option ((List TEv × Unit) × Unit)) (d : List TEv × List TEv × Int × Int) : Option ((List TEv × Unit) × Unit) :=
 sel (decide (d.2.2.2 < d.2.2.1))
 (grd (inb d.2.1 d.2.2.2)
 (sel (!decide ((rdL d.2.1 d.2.2.2 (0, 0, 0, [], 0, 0, 0, ())).1 = a1))
 (grd (fits (List.length d.1 + 1) 64)
 (ih
 (d.1 ++
 [((rdL d.2.1 d.2.2.2 (0, 0, 0, [], 0, 0, 0, ())).1,
 (rdL d.2.1 d.2.2.2 (0, 0, 0, [], 0, 0, 0, ())).2.1,
 (rdL d.2.1 d.2.2.2 (0, 0, 0, [], 0, 0, 0, ())).2.2.1,
 (rdL d.2.1 d.2.2.2 (0, 0, 0, [], 0, 0, 0, ())).2.2.2.1,
 (rdL d.2.1 d.2.2.2 (0, 0, 0, [], 0, 0, 0, ())).2.2.2.2.1,
 (rdL d.2.1 d.2.2.2 (0, 0, 0, [], 0, 0, 0, ())).2.2.2.2.2.1,
 (rdL d.2.1 d.2.2.2 (0, 0, 0, [], 0, 0, 0, ())).2.2.2.2.2.2.1, ())],
 d.2.1, d.2.2.1, IntKind.wrap IntKind.i64 (d.2.2.2 + 1))))
 (ih (d.1, d.2.1, d.2.2.1, IntKind.wrap IntKind.i64 (d.2.2.2 + 1)))))
 (J d.1)
def VF.impl_DropEvent (k : Nat) (a0 : List TEv) (a1 : Int) : Option ((List TEv × Unit) × Unit) :=
 join VF.impl_DropEvent.j0
 fun
 (J :
 List TEv →
 Option ((List TEv × Unit) × Unit)) =>
 iter (VF.impl_DropEvent.l1 a1 J) k ([], a0, (List.length a0 : Int), 0)
