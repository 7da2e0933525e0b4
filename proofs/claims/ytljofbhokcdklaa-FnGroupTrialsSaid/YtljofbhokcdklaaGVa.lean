/- More functions, as printed. -/
import Derived.Test.YtljofbhokcdklaaFVa
set_option linter.unusedVariables false
open Go VM
def VF.spec_AddEntries.j0 (d : List (List UInt8 × Int × Unit)) : Option ((List (List UInt8 × Int × Unit) × Bool × Unit) × PUnit) :=
  some ((d, true, ()), ())
def VF.spec_AddEntries.j1 (ih : List (List UInt8 × Int × Unit) × Int → Option ((List (List UInt8 × Int × Unit) × Bool × Unit) × PUnit)) (d : List (List UInt8 × Int × Unit) × Int) : Option ((List (List UInt8 × Int × Unit) × Bool × Unit) × PUnit) :=
  ih (Prod.fst d, IntKind.wrap IntKind.i64 (Prod.snd d + 1))
def VF.spec_AddEntries.j2 (k : Nat) (J : List (List UInt8 × Int × Unit) × Int → Option ((List (List UInt8 × Int × Unit) × Bool × Unit) × PUnit)) (d : List (List UInt8 × Int × Unit) × Int × List UInt8 × Int) : Option ((List (List UInt8 × Int × Unit) × Bool × Unit) × PUnit) :=
  bnd (VF.spec_l35Add k (Prod.fst d) (Prod.fst (Prod.snd (Prod.snd d))) (Prod.snd (Prod.snd (Prod.snd d))))
  fun (y : (List (List UInt8 × Int × Unit) × Unit) × PUnit) => J (Prod.fst (Prod.fst y), Prod.fst (Prod.snd d))
def VF.spec_AddEntries.j3 (k : Nat) (J : List (List UInt8 × Int × Unit) × Int → Option ((List (List UInt8 × Int × Unit) × Bool × Unit) × PUnit)) (d : List (List UInt8 × Int × Unit) × Int × List UInt8 × Int) : Option ((List (List UInt8 × Int × Unit) × Bool × Unit) × PUnit) :=
  join (VF.spec_AddEntries.j2 k J)
  fun (J : List (List UInt8 × Int × Unit) × Int × List UInt8 × Int → Option ((List (List UInt8 × Int × Unit) × Bool × Unit) × PUnit)) =>
  bnd (VF.spec_IsCode k (Prod.fst (Prod.snd (Prod.snd d)))) fun (y : (Bool × Unit) × PUnit) =>
    sel (!Prod.fst (Prod.fst y)) (some (([], false, ()), ()))
      (bnd (VF.spec_l1In k (Prod.snd (Prod.snd (Prod.snd d))) (-1000000000000) 1000000000000) fun (y : (Bool × Unit) × PUnit) =>
        sel (!Prod.fst (Prod.fst y)) (some (([], false, ()), ()))
          (sel (decide (1000 < Prod.fst (Prod.snd d))) (some (([], false, ()), ()))
            (J (Prod.fst d, Prod.fst (Prod.snd d), Prod.fst (Prod.snd (Prod.snd d)), Prod.snd (Prod.snd (Prod.snd d))))))
def VF.spec_AddEntries.l4 (k : Nat) (a0 : List (List UInt8 × Int × Unit)) (a1 : List (List UInt8 × Int × Unit)) (J : List (List UInt8 × Int × Unit) → Option ((List (List UInt8 × Int × Unit) × Bool × Unit) × PUnit)) (ih : List (List UInt8 × Int × Unit) × Int → Option ((List (List UInt8 × Int × Unit) × Bool × Unit) × PUnit)) (d : List (List UInt8 × Int × Unit) × Int) : Option ((List (List UInt8 × Int × Unit) × Bool × Unit) × PUnit) :=
  sel (decide (Prod.snd d < IntKind.wrap IntKind.i64 ((List.length a0 : Int) + (List.length a1 : Int))))
  (join (VF.spec_AddEntries.j1 ih) fun (J : List (List UInt8 × Int × Unit) × Int → Option ((List (List UInt8 × Int × Unit) × Bool × Unit) × PUnit)) =>
    join (VF.spec_AddEntries.j3 k J)
      fun (J : List (List UInt8 × Int × Unit) × Int × List UInt8 × Int → Option ((List (List UInt8 × Int × Unit) × Bool × Unit) × PUnit)) =>
      sel (decide (Prod.snd d < (List.length a0 : Int)))
        (grd (inb a0 (Prod.snd d))
          (J (Prod.fst d, Prod.snd d, Prod.fst (rdL a0 (Prod.snd d) ([], 0, ())), Prod.fst (Prod.snd (rdL a0 (Prod.snd d) ([], 0, ()))))))
        (grd (inb a1 (IntKind.wrap IntKind.i64 (Prod.snd d - (List.length a0 : Int))))
          (J
            (Prod.fst d, Prod.snd d, Prod.fst (rdL a1 (IntKind.wrap IntKind.i64 (Prod.snd d - (List.length a0 : Int))) ([], 0, ())),
              Prod.fst (Prod.snd (rdL a1 (IntKind.wrap IntKind.i64 (Prod.snd d - (List.length a0 : Int))) ([], 0, ())))))))
  (J (Prod.fst d))
def VF.spec_AddEntries (k : Nat) (a0 : List (List UInt8 × Int × Unit)) (a1 : List (List UInt8 × Int × Unit)) : Option ((List (List UInt8 × Int × Unit) × Bool × Unit) × PUnit) :=
  join VF.spec_AddEntries.j0 fun (J : List (List UInt8 × Int × Unit) → Option ((List (List UInt8 × Int × Unit) × Bool × Unit) × PUnit)) =>
  iter (VF.spec_AddEntries.l4 k a0 a1 J) k ([], 0)
def VF.spec_EliminationOf.j0 (d : List (List UInt8 × Int × Unit)) : Option ((List (List UInt8 × Int × Unit) × Unit) × PUnit) :=
  some ((d, ()), ())
def VF.spec_EliminationOf.l1 (k : Nat) (a0 : List (Int × Int × Int × Int × Unit)) (a1 : Int) (J : List (List UInt8 × Int × Unit) → Option ((List (List UInt8 × Int × Unit) × Unit) × PUnit)) (ih : List (List UInt8 × Int × Unit) × Int → Option ((List (List UInt8 × Int × Unit) × Unit) × PUnit)) (d : List (List UInt8 × Int × Unit) × Int) : Option ((List (List UInt8 × Int × Unit) × Unit) × PUnit) :=
  sel (decide (Prod.snd d < (List.length a0 : Int)))
  (bnd (VF.spec_AreDealings k a0 a1) fun (y : (Bool × Unit) × PUnit) =>
    sel (Prod.fst (Prod.fst y))
      (grd (inb a0 (Prod.snd d))
        (bnd
          (VF.spec_l35Add k (Prod.fst d) (Array.toList #[83, 65, 76, 69, 83]) (Prod.fst (Prod.snd (Prod.snd (rdL a0 (Prod.snd d) (0, 0, 0, 0, ()))))))
          fun (y : (List (List UInt8 × Int × Unit) × Unit) × PUnit) =>
          grd (inb a0 (Prod.snd d))
            (bnd
              (VF.spec_l35Add k (Prod.fst (Prod.fst y)) (Array.toList #[67, 79, 83, 84])
                (IntKind.wrap IntKind.i64 (0 - Prod.fst (Prod.snd (Prod.snd (rdL a0 (Prod.snd d) (0, 0, 0, 0, ())))))))
              fun (y : (List (List UInt8 × Int × Unit) × Unit) × PUnit) =>
              grd (inb a0 (Prod.snd d))
                (bnd
                  (VF.spec_l35Add k (Prod.fst (Prod.fst y)) (Array.toList #[67, 76, 65, 73, 77, 83])
                    (IntKind.wrap IntKind.i64 (0 - Prod.fst (Prod.snd (Prod.snd (Prod.snd (rdL a0 (Prod.snd d) (0, 0, 0, 0, ()))))))))
                  fun (y : (List (List UInt8 × Int × Unit) × Unit) × PUnit) =>
                  grd (inb a0 (Prod.snd d))
                    (bnd
                      (VF.spec_l35Add k (Prod.fst (Prod.fst y)) (Array.toList #[68, 69, 66, 84, 83])
                        (Prod.fst (Prod.snd (Prod.snd (Prod.snd (rdL a0 (Prod.snd d) (0, 0, 0, 0, ())))))))
                      fun (y : (List (List UInt8 × Int × Unit) × Unit) × PUnit) =>
                      ih (Prod.fst (Prod.fst y), IntKind.wrap IntKind.i64 (Prod.snd d + 1)))))))
      (J (Prod.fst d)))
  (J (Prod.fst d))
def VF.spec_EliminationOf (k : Nat) (a0 : List (Int × Int × Int × Int × Unit)) (a1 : Int) : Option ((List (List UInt8 × Int × Unit) × Unit) × PUnit) :=
  join VF.spec_EliminationOf.j0 fun (J : List (List UInt8 × Int × Unit) → Option ((List (List UInt8 × Int × Unit) × Unit) × PUnit)) =>
  iter (VF.spec_EliminationOf.l1 k a0 a1 J) k ([], 0)
def VF.spec_GroupTrial.j0 (k : Nat) (a0 : List (List (List UInt8 × Int × Unit))) (a1 : List (Int × Int × Int × Int × Unit)) (d : List (List UInt8 × Int × Unit)) : Option ((List (List UInt8 × Int × Unit) × Bool × Unit) × PUnit) :=
  bnd (VF.spec_EliminationOf k a1 (List.length a0 : Int)) fun (y : (List (List UInt8 × Int × Unit) × Unit) × PUnit) =>
  bnd (VF.spec_AddEntries k d (Prod.fst (Prod.fst y))) fun (y : (List (List UInt8 × Int × Unit) × Bool × Unit) × PUnit) =>
    some ((Prod.fst (Prod.fst y), Prod.fst (Prod.snd (Prod.fst y)), ()), ())
def VF.spec_GroupTrial (k : Nat) (a0 : List (List (List UInt8 × Int × Unit))) (a1 : List (Int × Int × Int × Int × Unit)) : Option ((List (List UInt8 × Int × Unit) × Bool × Unit) × PUnit) :=
  bnd (VF.spec_JoinTrials k a0) fun (y : (List (List UInt8 × Int × Unit) × Bool × Unit) × PUnit) =>
  join (VF.spec_GroupTrial.j0 k a0 a1) fun (J : List (List UInt8 × Int × Unit) → Option ((List (List UInt8 × Int × Unit) × Bool × Unit) × PUnit)) =>
    sel (!Prod.fst (Prod.snd (Prod.fst y))) (some (([], false, ()), ()))
      (bnd (VF.spec_AreDealings k a1 (List.length a0 : Int)) fun (y_1 : (Bool × Unit) × PUnit) =>
        sel (!Prod.fst (Prod.fst y_1)) (some (([], false, ()), ())) (J (Prod.fst (Prod.fst y))))
def VF.impl_AddEntries.j0 (k : Nat) (d : List (List UInt8 × Int × Unit)) : Option ((List (List UInt8 × Int × Unit) × Bool × Unit) × PUnit) :=
  bnd (VF.impl_totals k d) fun (y : (List (List UInt8 × Int × Unit) × Unit) × PUnit) => some ((Prod.fst (Prod.fst y), true, ()), ())
def VF.impl_AddEntries.l1 (k : Nat) (J : List (List UInt8 × Int × Unit) → Option ((List (List UInt8 × Int × Unit) × Bool × Unit) × PUnit)) (ih : List (List UInt8 × Int × Unit) × List (List UInt8 × Int × Unit) × Int × Int → Option ((List (List UInt8 × Int × Unit) × Bool × Unit) × PUnit)) (d : List (List UInt8 × Int × Unit) × List (List UInt8 × Int × Unit) × Int × Int) : Option ((List (List UInt8 × Int × Unit) × Bool × Unit) × PUnit) :=
  sel (decide (Prod.snd (Prod.snd (Prod.snd d)) < Prod.fst (Prod.snd (Prod.snd d))))
  (grd (inb (Prod.fst (Prod.snd d)) (Prod.snd (Prod.snd (Prod.snd d))))
    (bnd (VF.impl_IsCode k (Prod.fst (rdL (Prod.fst (Prod.snd d)) (Prod.snd (Prod.snd (Prod.snd d))) ([], 0, ())))) fun (y : (Bool × Unit) × PUnit) =>
      sel (!Prod.fst (Prod.fst y)) (some (([], false, ()), ()))
        (bnd
          (VF.impl_in k (Prod.fst (Prod.snd (rdL (Prod.fst (Prod.snd d)) (Prod.snd (Prod.snd (Prod.snd d))) ([], 0, ())))) (-1000000000000)
            1000000000000)
          fun (y : (Bool × Unit) × PUnit) =>
          sel (!Prod.fst (Prod.fst y)) (some (([], false, ()), ()))
            (ih
              (Prod.fst d, Prod.fst (Prod.snd d), Prod.fst (Prod.snd (Prod.snd d)),
                IntKind.wrap IntKind.i64 (Prod.snd (Prod.snd (Prod.snd d)) + 1))))))
  (J (Prod.fst d))
def VF.impl_AddEntries.j2 (k : Nat) (d : List (List UInt8 × Int × Unit)) : Option ((List (List UInt8 × Int × Unit) × Bool × Unit) × PUnit) :=
  join (VF.impl_AddEntries.j0 k) fun (J : List (List UInt8 × Int × Unit) → Option ((List (List UInt8 × Int × Unit) × Bool × Unit) × PUnit)) =>
  iter (VF.impl_AddEntries.l1 k J) k (d, d, (List.length d : Int), 0)
def VF.impl_AddEntries (k : Nat) (a0 : List (List UInt8 × Int × Unit)) (a1 : List (List UInt8 × Int × Unit)) : Option ((List (List UInt8 × Int × Unit) × Bool × Unit) × PUnit) :=
  sel (decide (1001 < IntKind.wrap IntKind.i64 ((List.length a0 : Int) + (List.length a1 : Int)))) (some (([], false, ()), ()))
  (join (VF.impl_AddEntries.j2 k) fun (J : List (List UInt8 × Int × Unit) → Option ((List (List UInt8 × Int × Unit) × Bool × Unit) × PUnit)) =>
    grd (fits (0 + List.length a0) 24) (grd (fits (List.length ([] ++ a0) + List.length a1) 24) (J ([] ++ a0 ++ a1))))
def VF.impl_EliminationOf.j0 (k : Nat) (d : List (List UInt8 × Int × Unit)) : Option ((List (List UInt8 × Int × Unit) × Unit) × PUnit) :=
  bnd (VF.impl_totals k d) fun (y : (List (List UInt8 × Int × Unit) × Unit) × PUnit) => some ((Prod.fst (Prod.fst y), ()), ())
def VF.impl_EliminationOf.l1 (J : List (List UInt8 × Int × Unit) → Option ((List (List UInt8 × Int × Unit) × Unit) × PUnit)) (ih : List (List UInt8 × Int × Unit) × List (Int × Int × Int × Int × Unit) × Int × Int → Option ((List (List UInt8 × Int × Unit) × Unit) × PUnit)) (d : List (List UInt8 × Int × Unit) × List (Int × Int × Int × Int × Unit) × Int × Int) : Option ((List (List UInt8 × Int × Unit) × Unit) × PUnit) :=
  sel (decide (Prod.snd (Prod.snd (Prod.snd d)) < Prod.fst (Prod.snd (Prod.snd d))))
  (grd (inb (Prod.fst (Prod.snd d)) (Prod.snd (Prod.snd (Prod.snd d))))
    (grd
      (fits
        (List.length (Prod.fst d) +
          List.length
            [(Array.toList #[83, 65, 76, 69, 83],
                Prod.fst (Prod.snd (Prod.snd (rdL (Prod.fst (Prod.snd d)) (Prod.snd (Prod.snd (Prod.snd d))) (0, 0, 0, 0, ())))), ()),
              (Array.toList #[67, 79, 83, 84],
                IntKind.wrap IntKind.i64
                  (0 - Prod.fst (Prod.snd (Prod.snd (rdL (Prod.fst (Prod.snd d)) (Prod.snd (Prod.snd (Prod.snd d))) (0, 0, 0, 0, ()))))),
                ()),
              (Array.toList #[67, 76, 65, 73, 77, 83],
                IntKind.wrap IntKind.i64
                  (0 - Prod.fst (Prod.snd (Prod.snd (Prod.snd (rdL (Prod.fst (Prod.snd d)) (Prod.snd (Prod.snd (Prod.snd d))) (0, 0, 0, 0, ())))))),
                ()),
              (Array.toList #[68, 69, 66, 84, 83],
                Prod.fst (Prod.snd (Prod.snd (Prod.snd (rdL (Prod.fst (Prod.snd d)) (Prod.snd (Prod.snd (Prod.snd d))) (0, 0, 0, 0, ()))))), ())])
        24)
      (ih
        (Prod.fst d ++
            [(Array.toList #[83, 65, 76, 69, 83],
                Prod.fst (Prod.snd (Prod.snd (rdL (Prod.fst (Prod.snd d)) (Prod.snd (Prod.snd (Prod.snd d))) (0, 0, 0, 0, ())))), ()),
              (Array.toList #[67, 79, 83, 84],
                IntKind.wrap IntKind.i64
                  (0 - Prod.fst (Prod.snd (Prod.snd (rdL (Prod.fst (Prod.snd d)) (Prod.snd (Prod.snd (Prod.snd d))) (0, 0, 0, 0, ()))))),
                ()),
              (Array.toList #[67, 76, 65, 73, 77, 83],
                IntKind.wrap IntKind.i64
                  (0 - Prod.fst (Prod.snd (Prod.snd (Prod.snd (rdL (Prod.fst (Prod.snd d)) (Prod.snd (Prod.snd (Prod.snd d))) (0, 0, 0, 0, ())))))),
                ()),
              (Array.toList #[68, 69, 66, 84, 83],
                Prod.fst (Prod.snd (Prod.snd (Prod.snd (rdL (Prod.fst (Prod.snd d)) (Prod.snd (Prod.snd (Prod.snd d))) (0, 0, 0, 0, ()))))), ())],
          Prod.fst (Prod.snd d), Prod.fst (Prod.snd (Prod.snd d)), IntKind.wrap IntKind.i64 (Prod.snd (Prod.snd (Prod.snd d)) + 1)))))
  (J (Prod.fst d))
def VF.impl_EliminationOf (k : Nat) (a0 : List (Int × Int × Int × Int × Unit)) (a1 : Int) : Option ((List (List UInt8 × Int × Unit) × Unit) × PUnit) :=
  bnd (VF.impl_AreDealings k a0 a1) fun (y : (Bool × Unit) × PUnit) =>
  sel (!Prod.fst (Prod.fst y)) (some (([], ()), ()))
    (join (VF.impl_EliminationOf.j0 k) fun (J : List (List UInt8 × Int × Unit) → Option ((List (List UInt8 × Int × Unit) × Unit) × PUnit)) =>
      iter (VF.impl_EliminationOf.l1 J) k ([], a0, (List.length a0 : Int), 0))
def VF.impl_GroupTrial (k : Nat) (a0 : List (List (List UInt8 × Int × Unit))) (a1 : List (Int × Int × Int × Int × Unit)) : Option ((List (List UInt8 × Int × Unit) × Bool × Unit) × PUnit) :=
  bnd (VF.impl_JoinTrials k a0) fun (y : (List (List UInt8 × Int × Unit) × Bool × Unit) × PUnit) =>
  sel (!Prod.fst (Prod.snd (Prod.fst y))) (some (([], false, ()), ()))
    (bnd (VF.impl_AreDealings k a1 (List.length a0 : Int)) fun (y_1 : (Bool × Unit) × PUnit) =>
      sel (!Prod.fst (Prod.fst y_1)) (some (([], false, ()), ()))
        (bnd (VF.impl_EliminationOf k a1 (List.length a0 : Int)) fun (y_2 : (List (List UInt8 × Int × Unit) × Unit) × PUnit) =>
          bnd (VF.impl_AddEntries k (Prod.fst (Prod.fst y)) (Prod.fst (Prod.fst y_2)))
            fun (y : (List (List UInt8 × Int × Unit) × Bool × Unit) × PUnit) =>
            some ((Prod.fst (Prod.fst y), Prod.fst (Prod.snd (Prod.fst y)), ()), ())))
def VF.laws_FnExactGroupTrial.j0 (k : Nat) (d : List (List UInt8 × Int × Unit) × Int) : Option ((Bool × Unit) × PUnit) :=
  bnd (VF.laws_heldEntryS k (Prod.fst d) 1) fun (y : (Int × Unit) × PUnit) =>
  sel (decide (Prod.fst (Prod.fst y) < 0)) (some ((false, ()), ()))
    (sel (!decide (Prod.fst (Prod.fst y) = Prod.snd d)) (some ((false, ()), ())) (some ((true, ()), ())))
def VF.laws_FnExactGroupTrial.j1 (k : Nat) (a0 : List (List (List UInt8 × Int × Unit))) (a1 : List (Int × Int × Int × Int × Unit)) (d : List (List UInt8 × Int × Unit) × Bool × List (List UInt8 × Int × Unit)) : Option ((Bool × Unit) × PUnit) :=
  bnd (VF.laws_markEntryS k (Prod.snd (Prod.snd d)) 1) fun (y : (Int × Unit) × List (List UInt8 × Int × Unit) × Unit) =>
  bnd (VF.laws_heldEntryS k (Prod.fst (Prod.snd y)) 1) fun (y_1 : (Int × Unit) × PUnit) =>
    sel (decide (Prod.fst (Prod.fst y_1) < 0)) (some ((false, ()), ()))
      (sel (!decide (Prod.fst (Prod.fst y_1) = Prod.fst (Prod.fst y))) (some ((false, ()), ()))
        (bnd (VF.laws_toEntrySS k a0) fun (y_2 : (List (List (List UInt8 × Int × Unit)) × Unit) × PUnit) =>
          bnd (VF.laws_toDealingS k a1) fun (y_3 : (List (Int × Int × Int × Int × Unit) × Unit) × PUnit) =>
            bnd (VF.impl_GroupTrial k (Prod.fst (Prod.fst y_2)) (Prod.fst (Prod.fst y_3)))
              fun (y_4 : (List (List UInt8 × Int × Unit) × Bool × Unit) × PUnit) =>
              join (VF.laws_FnExactGroupTrial.j0 k) fun (J : List (List UInt8 × Int × Unit) × Int → Option ((Bool × Unit) × PUnit)) =>
                bnd (VF.laws_eqEntryS k (Prod.fst (Prod.fst y_4)) (Prod.fst d)) fun (y_5 : (Bool × Unit) × PUnit) =>
                  sel (!Prod.fst (Prod.fst y_5)) (some ((false, ()), ()))
                    (sel (!Prod.fst (Prod.snd (Prod.fst y_4)) == Prod.fst (Prod.snd d)) (some ((false, ()), ()))
                      (J (Prod.fst (Prod.snd y), Prod.fst (Prod.fst y))))))
def VF.laws_FnExactGroupTrial.j2 (k : Nat) (a0 : List (List (List UInt8 × Int × Unit))) (a1 : List (Int × Int × Int × Int × Unit)) (d : List (List UInt8 × Int × Unit) ×
  Bool × List (List (List UInt8 × Int × Unit)) × List (Int × Int × Int × Int × Unit) × List (List UInt8 × Int × Unit) × Bool) : Option ((Bool × Unit) × PUnit) :=
  bnd (VF.laws_toEntrySS k a0) fun (y : (List (List (List UInt8 × Int × Unit)) × Unit) × PUnit) =>
  bnd (VF.laws_eqEntrySS k (Prod.fst (Prod.snd (Prod.snd d))) (Prod.fst (Prod.fst y))) fun (y : (Bool × Unit) × PUnit) =>
    sel (!Prod.fst (Prod.fst y)) (some ((false, ()), ()))
      (bnd (VF.laws_toDealingS k a1) fun (y : (List (Int × Int × Int × Int × Unit) × Unit) × PUnit) =>
        bnd (VF.laws_eqDealingS k (Prod.fst (Prod.snd (Prod.snd (Prod.snd d)))) (Prod.fst (Prod.fst y))) fun (y : (Bool × Unit) × PUnit) =>
          sel (!Prod.fst (Prod.fst y)) (some ((false, ()), ()))
            (bnd (VF.laws_markEntrySS k (Prod.fst (Prod.snd (Prod.snd d))) 1) fun (y : (Int × Unit) × List (List (List UInt8 × Int × Unit)) × Unit) =>
              bnd (VF.laws_markDealingS k (Prod.fst (Prod.snd (Prod.snd (Prod.snd d)))) (Prod.fst (Prod.fst y)))
                fun (y : (Int × Unit) × List (Int × Int × Int × Int × Unit) × Unit) =>
                join (VF.laws_FnExactGroupTrial.j1 k a0 a1)
                  fun (J : List (List UInt8 × Int × Unit) × Bool × List (List UInt8 × Int × Unit) → Option ((Bool × Unit) × PUnit)) =>
                  sel (decide (Prod.fst (Prod.fst y) < 0)) (some ((false, ()), ()))
                    (bnd (VF.laws_eqEntryS k (Prod.fst (Prod.snd (Prod.snd (Prod.snd (Prod.snd d))))) (Prod.fst d)) fun (y : (Bool × Unit) × PUnit) =>
                      sel (!Prod.fst (Prod.fst y)) (some ((false, ()), ()))
                        (sel (!Prod.snd (Prod.snd (Prod.snd (Prod.snd (Prod.snd d)))) == Prod.fst (Prod.snd d)) (some ((false, ()), ()))
                          (J (Prod.fst d, Prod.fst (Prod.snd d), Prod.fst (Prod.snd (Prod.snd (Prod.snd (Prod.snd d))))))))))
def VF.laws_FnExactGroupTrial (k : Nat) (a0 : List (List (List UInt8 × Int × Unit))) (a1 : List (Int × Int × Int × Int × Unit)) : Option ((Bool × Unit) × PUnit) :=
  bnd (VF.laws_szEntrySS k a0 1048576) fun (y : (Int × Unit) × PUnit) =>
  sel (decide (Prod.fst (Prod.fst y) < 0)) (some ((true, ()), ()))
    (bnd (VF.laws_szDealingS k a1 (Prod.fst (Prod.fst y))) fun (y : (Int × Unit) × PUnit) =>
      sel (decide (Prod.fst (Prod.fst y) < 0)) (some ((true, ()), ()))
        (bnd (VF.laws_toEntrySS k a0) fun (y : (List (List (List UInt8 × Int × Unit)) × Unit) × PUnit) =>
          bnd (VF.laws_toDealingS k a1) fun (y_1 : (List (Int × Int × Int × Int × Unit) × Unit) × PUnit) =>
            bnd (VF.spec_GroupTrial k (Prod.fst (Prod.fst y)) (Prod.fst (Prod.fst y_1)))
              fun (y : (List (List UInt8 × Int × Unit) × Bool × Unit) × PUnit) =>
              bnd (VF.laws_toEntrySS k a0) fun (y_2 : (List (List (List UInt8 × Int × Unit)) × Unit) × PUnit) =>
                bnd (VF.laws_toDealingS k a1) fun (y_3 : (List (Int × Int × Int × Int × Unit) × Unit) × PUnit) =>
                  bnd (VF.impl_GroupTrial k (Prod.fst (Prod.fst y_2)) (Prod.fst (Prod.fst y_3)))
                    fun (y_4 : (List (List UInt8 × Int × Unit) × Bool × Unit) × PUnit) =>
                    join (VF.laws_FnExactGroupTrial.j2 k a0 a1)
                      fun
                        (J :
                          List (List UInt8 × Int × Unit) ×
                              Bool ×
                                List (List (List UInt8 × Int × Unit)) × List (Int × Int × Int × Int × Unit) × List (List UInt8 × Int × Unit) × Bool →
                            Option ((Bool × Unit) × PUnit)) =>
                      bnd (VF.laws_eqEntryS k (Prod.fst (Prod.fst y_4)) (Prod.fst (Prod.fst y))) fun (y_5 : (Bool × Unit) × PUnit) =>
                        sel (!Prod.fst (Prod.fst y_5)) (some ((false, ()), ()))
                          (sel (!Prod.fst (Prod.snd (Prod.fst y_4)) == Prod.fst (Prod.snd (Prod.fst y))) (some ((false, ()), ()))
                            (J
                              (Prod.fst (Prod.fst y), Prod.fst (Prod.snd (Prod.fst y)), Prod.fst (Prod.fst y_2), Prod.fst (Prod.fst y_3),
                                Prod.fst (Prod.fst y_4), Prod.fst (Prod.snd (Prod.fst y_4)))))))
