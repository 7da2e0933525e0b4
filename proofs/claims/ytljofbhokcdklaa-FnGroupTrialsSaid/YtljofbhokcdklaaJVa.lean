/- More functions, as printed. -/
import Derived.Test.YtljofbhokcdklaaHVa
set_option linter.unusedVariables false
open Go VM
def VF.spec_l40Firms.j0 (k : Nat) (d : (List Int × Int × Int) × List (List (List UInt8 × Int × Unit))) : Option ((List (List (List UInt8 × Int × Unit)) × Unit) × (List Int × Int × Int × Unit) × Unit) :=
  bnd (VF.spec_l1Once k (Prod.fst (Prod.fst d), Prod.fst (Prod.snd (Prod.fst d)), Prod.snd (Prod.snd (Prod.fst d)), ()) 16)
  fun (y : (Bool × Unit) × (List Int × Int × Int × Unit) × Unit) =>
  sel (Prod.fst (Prod.fst y))
    (sel (decide (0 < (List.length (Prod.snd d) : Int)))
      (bnd
        (VF.spec_l35Entries k
          (Prod.fst (Prod.fst (Prod.snd y)), Prod.fst (Prod.snd (Prod.fst (Prod.snd y))), Prod.fst (Prod.snd (Prod.snd (Prod.fst (Prod.snd y)))), ()))
        fun (y : (List (List UInt8 × Int × Unit) × Unit) × (List Int × Int × Int × Unit) × Unit) =>
        grd (inb (Prod.snd d) 0)
          (some
            ((wrL (Prod.snd d) 0 (Prod.fst (Prod.fst y)), ()),
              (Prod.fst (Prod.fst (Prod.snd y)), Prod.fst (Prod.snd (Prod.fst (Prod.snd y))), Prod.fst (Prod.snd (Prod.snd (Prod.fst (Prod.snd y)))),
                ()),
              ())))
      (some
        ((Prod.snd d, ()),
          (Prod.fst (Prod.fst (Prod.snd y)), Prod.fst (Prod.snd (Prod.fst (Prod.snd y))), Prod.fst (Prod.snd (Prod.snd (Prod.fst (Prod.snd y)))), ()),
          ())))
    (some
      ((Prod.snd d, ()),
        (Prod.fst (Prod.fst (Prod.snd y)), Prod.fst (Prod.snd (Prod.fst (Prod.snd y))), Prod.fst (Prod.snd (Prod.snd (Prod.fst (Prod.snd y)))), ()),
        ()))
def VF.spec_l40Firms.l1 (k : Nat) (J : (List Int × Int × Int) × List (List (List UInt8 × Int × Unit)) →
  Option ((List (List (List UInt8 × Int × Unit)) × Unit) × (List Int × Int × Int × Unit) × Unit)) (ih : (List Int × Int × Int) × List (List (List UInt8 × Int × Unit)) × Int →
  Option ((List (List (List UInt8 × Int × Unit)) × Unit) × (List Int × Int × Int × Unit) × Unit)) (d : (List Int × Int × Int) × List (List (List UInt8 × Int × Unit)) × Int) : Option ((List (List (List UInt8 × Int × Unit)) × Unit) × (List Int × Int × Int × Unit) × Unit) :=
  sel (decide (0 < Prod.snd (Prod.snd d)))
  (bnd (VF.spec_l35Documents k (Prod.fst (Prod.fst d), Prod.fst (Prod.snd (Prod.fst d)), Prod.snd (Prod.snd (Prod.fst d)), ()))
    fun (y : (List (Int × Int × List (List UInt8 × Int × Unit) × Unit) × Unit) × (List Int × Int × Int × Unit) × Unit) =>
    bnd (VF.spec_TrialBalance k (Prod.fst (Prod.fst y)) 30) fun (y_1 : (List (List UInt8 × Int × Unit) × Unit) × PUnit) =>
      grd (fits (List.length (Prod.fst (Prod.snd d)) + List.length [Prod.fst (Prod.fst y_1)]) 24)
        (ih
          ((Prod.fst (Prod.fst (Prod.snd y)), Prod.fst (Prod.snd (Prod.fst (Prod.snd y))), Prod.fst (Prod.snd (Prod.snd (Prod.fst (Prod.snd y))))),
            Prod.fst (Prod.snd d) ++ [Prod.fst (Prod.fst y_1)], IntKind.wrap IntKind.i64 (Prod.snd (Prod.snd d) - 1))))
  (J ((Prod.fst (Prod.fst d), Prod.fst (Prod.snd (Prod.fst d)), Prod.snd (Prod.snd (Prod.fst d))), Prod.fst (Prod.snd d)))
def VF.spec_l40Firms (k : Nat) (a0 : List Int × Int × Int × Unit) : Option ((List (List (List UInt8 × Int × Unit)) × Unit) × (List Int × Int × Int × Unit) × Unit) :=
  join (VF.spec_l40Firms.j0 k)
  fun
    (J :
      (List Int × Int × Int) × List (List (List UInt8 × Int × Unit)) →
        Option ((List (List (List UInt8 × Int × Unit)) × Unit) × (List Int × Int × Int × Unit) × Unit)) =>
  bnd (VF.spec_l1Below k (Prod.fst a0, Prod.fst (Prod.snd a0), Prod.fst (Prod.snd (Prod.snd a0)), ()) 4)
    fun (y : (Int × Unit) × (List Int × Int × Int × Unit) × Unit) =>
    iter (VF.spec_l40Firms.l1 k J) k
      ((Prod.fst (Prod.fst (Prod.snd y)), Prod.fst (Prod.snd (Prod.fst (Prod.snd y))), Prod.fst (Prod.snd (Prod.snd (Prod.fst (Prod.snd y))))), [],
        Prod.fst (Prod.fst y))
def VF.spec_l40Dealings.j0 (k : Nat) (d : (List Int × Int × Int) × List (Int × Int × Int × Int × Unit)) : Option ((List (Int × Int × Int × Int × Unit) × Unit) × (List Int × Int × Int × Unit) × Unit) :=
  bnd (VF.spec_l1Once k (Prod.fst (Prod.fst d), Prod.fst (Prod.snd (Prod.fst d)), Prod.snd (Prod.snd (Prod.fst d)), ()) 14)
  fun (y : (Bool × Unit) × (List Int × Int × Int × Unit) × Unit) =>
  sel (Prod.fst (Prod.fst y))
    (bnd
      (VF.spec_l1Below k
        (Prod.fst (Prod.fst (Prod.snd y)), Prod.fst (Prod.snd (Prod.fst (Prod.snd y))), Prod.fst (Prod.snd (Prod.snd (Prod.fst (Prod.snd y)))), ()) 4)
      fun (y : (Int × Unit) × (List Int × Int × Int × Unit) × Unit) =>
      bnd
        (VF.spec_l1Below k
          (Prod.fst (Prod.fst (Prod.snd y)), Prod.fst (Prod.snd (Prod.fst (Prod.snd y))), Prod.fst (Prod.snd (Prod.snd (Prod.fst (Prod.snd y)))), ())
          4)
        fun (y_1 : (Int × Unit) × (List Int × Int × Int × Unit) × Unit) =>
        bnd
          (VF.spec_l1Odd k
            (Prod.fst (Prod.fst (Prod.snd y_1)), Prod.fst (Prod.snd (Prod.fst (Prod.snd y_1))),
              Prod.fst (Prod.snd (Prod.snd (Prod.fst (Prod.snd y_1)))), ()))
          fun (y_2 : (Int × Unit) × (List Int × Int × Int × Unit) × Unit) =>
          grd
            (fits
              (List.length (Prod.snd d) +
                List.length [(IntKind.wrap IntKind.i64 (Prod.fst (Prod.fst y) - 1), Prod.fst (Prod.fst y_1), Prod.fst (Prod.fst y_2), 0, ())])
              32)
            (some
              ((Prod.snd d ++ [(IntKind.wrap IntKind.i64 (Prod.fst (Prod.fst y) - 1), Prod.fst (Prod.fst y_1), Prod.fst (Prod.fst y_2), 0, ())], ()),
                (Prod.fst (Prod.fst (Prod.snd y_2)), Prod.fst (Prod.snd (Prod.fst (Prod.snd y_2))),
                  Prod.fst (Prod.snd (Prod.snd (Prod.fst (Prod.snd y_2)))), ()),
                ())))
    (some
      ((Prod.snd d, ()),
        (Prod.fst (Prod.fst (Prod.snd y)), Prod.fst (Prod.snd (Prod.fst (Prod.snd y))), Prod.fst (Prod.snd (Prod.snd (Prod.fst (Prod.snd y)))), ()),
        ()))
def VF.spec_l40Dealings.l1 (k : Nat) (a1 : Int) (J : (List Int × Int × Int) × List (Int × Int × Int × Int × Unit) →
  Option ((List (Int × Int × Int × Int × Unit) × Unit) × (List Int × Int × Int × Unit) × Unit)) (ih : (List Int × Int × Int) × List (Int × Int × Int × Int × Unit) × Int →
  Option ((List (Int × Int × Int × Int × Unit) × Unit) × (List Int × Int × Int × Unit) × Unit)) (d : (List Int × Int × Int) × List (Int × Int × Int × Int × Unit) × Int) : Option ((List (Int × Int × Int × Int × Unit) × Unit) × (List Int × Int × Int × Unit) × Unit) :=
  sel (decide (0 < Prod.snd (Prod.snd d)))
  (sel (decide (1 < a1))
    (bnd (VF.spec_l1Below k (Prod.fst (Prod.fst d), Prod.fst (Prod.snd (Prod.fst d)), Prod.snd (Prod.snd (Prod.fst d)), ()) a1)
      fun (y : (Int × Unit) × (List Int × Int × Int × Unit) × Unit) =>
      bnd
        (VF.spec_l1Below k
          (Prod.fst (Prod.fst (Prod.snd y)), Prod.fst (Prod.snd (Prod.fst (Prod.snd y))), Prod.fst (Prod.snd (Prod.snd (Prod.fst (Prod.snd y)))), ())
          90)
        fun (y_1 : (Int × Unit) × (List Int × Int × Int × Unit) × Unit) =>
        bnd
          (VF.spec_l1Below k
            (Prod.fst (Prod.fst (Prod.snd y_1)), Prod.fst (Prod.snd (Prod.fst (Prod.snd y_1))),
              Prod.fst (Prod.snd (Prod.snd (Prod.fst (Prod.snd y_1)))), ())
            (IntKind.wrap IntKind.i64 (a1 - 1)))
          fun (y_2 : (Int × Unit) × (List Int × Int × Int × Unit) × Unit) =>
          grd (!decide (a1 = 0))
            (bnd
              (VF.spec_l1Below k
                (Prod.fst (Prod.fst (Prod.snd y_2)), Prod.fst (Prod.snd (Prod.fst (Prod.snd y_2))),
                  Prod.fst (Prod.snd (Prod.snd (Prod.fst (Prod.snd y_2)))), ())
                (IntKind.wrap IntKind.i64 (Prod.fst (Prod.fst y_1) + 1)))
              fun (y_3 : (Int × Unit) × (List Int × Int × Int × Unit) × Unit) =>
              grd
                (fits
                  (List.length (Prod.fst (Prod.snd d)) +
                    List.length
                      [(Prod.fst (Prod.fst y),
                          Int.tmod (IntKind.wrap IntKind.i64 (IntKind.wrap IntKind.i64 (Prod.fst (Prod.fst y) + 1) + Prod.fst (Prod.fst y_2))) a1,
                          Prod.fst (Prod.fst y_1), Prod.fst (Prod.fst y_3), ())])
                  32)
                (ih
                  ((Prod.fst (Prod.fst (Prod.snd y_3)), Prod.fst (Prod.snd (Prod.fst (Prod.snd y_3))),
                      Prod.fst (Prod.snd (Prod.snd (Prod.fst (Prod.snd y_3))))),
                    Prod.fst (Prod.snd d) ++
                      [(Prod.fst (Prod.fst y),
                          Int.tmod (IntKind.wrap IntKind.i64 (IntKind.wrap IntKind.i64 (Prod.fst (Prod.fst y) + 1) + Prod.fst (Prod.fst y_2))) a1,
                          Prod.fst (Prod.fst y_1), Prod.fst (Prod.fst y_3), ())],
                    IntKind.wrap IntKind.i64 (Prod.snd (Prod.snd d) - 1)))))
    (J ((Prod.fst (Prod.fst d), Prod.fst (Prod.snd (Prod.fst d)), Prod.snd (Prod.snd (Prod.fst d))), Prod.fst (Prod.snd d))))
  (J ((Prod.fst (Prod.fst d), Prod.fst (Prod.snd (Prod.fst d)), Prod.snd (Prod.snd (Prod.fst d))), Prod.fst (Prod.snd d)))
def VF.spec_l40Dealings (k : Nat) (a0 : List Int × Int × Int × Unit) (a1 : Int) : Option ((List (Int × Int × Int × Int × Unit) × Unit) × (List Int × Int × Int × Unit) × Unit) :=
  join (VF.spec_l40Dealings.j0 k)
  fun
    (J :
      (List Int × Int × Int) × List (Int × Int × Int × Int × Unit) →
        Option ((List (Int × Int × Int × Int × Unit) × Unit) × (List Int × Int × Int × Unit) × Unit)) =>
  bnd (VF.spec_l1Below k (Prod.fst a0, Prod.fst (Prod.snd a0), Prod.fst (Prod.snd (Prod.snd a0)), ()) 5)
    fun (y : (Int × Unit) × (List Int × Int × Int × Unit) × Unit) =>
    iter (VF.spec_l40Dealings.l1 k a1 J) k
      ((Prod.fst (Prod.fst (Prod.snd y)), Prod.fst (Prod.snd (Prod.fst (Prod.snd y))), Prod.fst (Prod.snd (Prod.snd (Prod.fst (Prod.snd y))))), [],
        Prod.fst (Prod.fst y))
def VF.spec_DrawGroupTrial (k : Nat) (a0 : List Int) : Option ((List (List (List UInt8 × Int × Unit)) × List (Int × Int × Int × Int × Unit) × Unit) × PUnit) :=
  bnd (VF.spec_l1New k a0) fun (y : ((List Int × Int × Int × Unit) × Unit) × PUnit) =>
  bnd
    (VF.spec_l40Firms k
      (Prod.fst (Prod.fst (Prod.fst y)), Prod.fst (Prod.snd (Prod.fst (Prod.fst y))), Prod.fst (Prod.snd (Prod.snd (Prod.fst (Prod.fst y)))), ()))
    fun (y : (List (List (List UInt8 × Int × Unit)) × Unit) × (List Int × Int × Int × Unit) × Unit) =>
    bnd
      (VF.spec_l40Dealings k
        (Prod.fst (Prod.fst (Prod.snd y)), Prod.fst (Prod.snd (Prod.fst (Prod.snd y))), Prod.fst (Prod.snd (Prod.snd (Prod.fst (Prod.snd y)))), ())
        (List.length (Prod.fst (Prod.fst y)) : Int))
      fun (y_1 : (List (Int × Int × Int × Int × Unit) × Unit) × (List Int × Int × Int × Unit) × Unit) =>
      some ((Prod.fst (Prod.fst y), Prod.fst (Prod.fst y_1), ()), ())
def VF.laws_FnGroupTrials.j0 (k : Nat) (d : List (Int × Int × Int × Int × Unit) × List (List UInt8 × Int × Unit) × List (List UInt8 × Int × Unit) × Bool × List (List UInt8 × Int × Unit) × Int) : Option ((Bool × Unit) × PUnit) :=
  sel (Prod.fst (Prod.snd (Prod.snd (Prod.snd d))))
  (sel (decide (Prod.snd (Prod.snd (Prod.snd (Prod.snd (Prod.snd d)))) = 0))
    (bnd (VF.laws_sameEntries k (Prod.fst (Prod.snd d)) (Prod.fst (Prod.snd (Prod.snd d)))) fun (y : (Bool × Unit) × PUnit) =>
      sel (Prod.fst (Prod.fst y))
        (sel (decide (0 < (List.length (Prod.fst d) : Int))) (some ((true, ()), ()))
          (bnd (VF.laws_sameEntries k (Prod.fst (Prod.snd d)) (Prod.fst (Prod.snd (Prod.snd (Prod.snd (Prod.snd d))))))
            fun (y : (Bool × Unit) × PUnit) => some ((Prod.fst (Prod.fst y), ()), ())))
        (some ((false, ()), ())))
    (some ((false, ()), ())))
  (some ((false, ()), ()))
def VF.laws_FnGroupTrials.l1 (J : List (Int × Int × Int × Int × Unit) × List (List UInt8 × Int × Unit) × List (List UInt8 × Int × Unit) × Bool × List (List UInt8 × Int × Unit) × Int →
  Option ((Bool × Unit) × PUnit)) (ih : List (Int × Int × Int × Int × Unit) ×
    List (List UInt8 × Int × Unit) × List (List UInt8 × Int × Unit) × Bool × List (List UInt8 × Int × Unit) × Int × Int →
  Option ((Bool × Unit) × PUnit)) (d : List (Int × Int × Int × Int × Unit) ×
  List (List UInt8 × Int × Unit) × List (List UInt8 × Int × Unit) × Bool × List (List UInt8 × Int × Unit) × Int × Int) : Option ((Bool × Unit) × PUnit) :=
  sel (decide (Prod.snd (Prod.snd (Prod.snd (Prod.snd (Prod.snd (Prod.snd d))))) < (List.length (Prod.fst (Prod.snd d)) : Int)))
  (grd (inb (Prod.fst (Prod.snd d)) (Prod.snd (Prod.snd (Prod.snd (Prod.snd (Prod.snd (Prod.snd d)))))))
    (ih
      (Prod.fst d, Prod.fst (Prod.snd d), Prod.fst (Prod.snd (Prod.snd d)), Prod.fst (Prod.snd (Prod.snd (Prod.snd d))),
        Prod.fst (Prod.snd (Prod.snd (Prod.snd (Prod.snd d)))),
        IntKind.wrap IntKind.i64
          (Prod.fst (Prod.snd (Prod.snd (Prod.snd (Prod.snd (Prod.snd d))))) +
            Prod.fst (Prod.snd (rdL (Prod.fst (Prod.snd d)) (Prod.snd (Prod.snd (Prod.snd (Prod.snd (Prod.snd (Prod.snd d)))))) ([], 0, ())))),
        IntKind.wrap IntKind.i64 (Prod.snd (Prod.snd (Prod.snd (Prod.snd (Prod.snd (Prod.snd d))))) + 1))))
  (J
    (Prod.fst d, Prod.fst (Prod.snd d), Prod.fst (Prod.snd (Prod.snd d)), Prod.fst (Prod.snd (Prod.snd (Prod.snd d))),
      Prod.fst (Prod.snd (Prod.snd (Prod.snd (Prod.snd d)))), Prod.fst (Prod.snd (Prod.snd (Prod.snd (Prod.snd (Prod.snd d)))))))
def VF.laws_FnGroupTrials.j2 (k : Nat) (d : List (List (List UInt8 × Int × Unit)) ×
  List (Int × Int × Int × Int × Unit) × List (List UInt8 × Int × Unit) × List (List (List UInt8 × Int × Unit)) × List (Int × Int × Int × Int × Unit)) : Option ((Bool × Unit) × PUnit) :=
  bnd (VF.impl_GroupTrial k (Prod.fst (Prod.snd (Prod.snd (Prod.snd d)))) (Prod.snd (Prod.snd (Prod.snd (Prod.snd d)))))
  fun (y : (List (List UInt8 × Int × Unit) × Bool × Unit) × PUnit) =>
  bnd (VF.impl_JoinTrials k (Prod.fst d)) fun (y_1 : (List (List UInt8 × Int × Unit) × Bool × Unit) × PUnit) =>
    join (VF.laws_FnGroupTrials.j0 k)
      fun
        (J :
          List (Int × Int × Int × Int × Unit) ×
              List (List UInt8 × Int × Unit) × List (List UInt8 × Int × Unit) × Bool × List (List UInt8 × Int × Unit) × Int →
            Option ((Bool × Unit) × PUnit)) =>
      iter (VF.laws_FnGroupTrials.l1 J) k
        (Prod.fst (Prod.snd d), Prod.fst (Prod.snd (Prod.snd d)), Prod.fst (Prod.fst y), Prod.fst (Prod.snd (Prod.fst y)), Prod.fst (Prod.fst y_1), 0,
          0)
def VF.laws_FnGroupTrials.l3 (J : List (List (List UInt8 × Int × Unit)) ×
    List (Int × Int × Int × Int × Unit) ×
      List (List UInt8 × Int × Unit) × List (List (List UInt8 × Int × Unit)) × List (Int × Int × Int × Int × Unit) →
  Option ((Bool × Unit) × PUnit)) (ih : List (List (List UInt8 × Int × Unit)) ×
    List (Int × Int × Int × Int × Unit) ×
      List (List UInt8 × Int × Unit) × List (List (List UInt8 × Int × Unit)) × List (Int × Int × Int × Int × Unit) × Int →
  Option ((Bool × Unit) × PUnit)) (d : List (List (List UInt8 × Int × Unit)) ×
  List (Int × Int × Int × Int × Unit) ×
    List (List UInt8 × Int × Unit) × List (List (List UInt8 × Int × Unit)) × List (Int × Int × Int × Int × Unit) × Int) : Option ((Bool × Unit) × PUnit) :=
  sel (decide (Prod.snd (Prod.snd (Prod.snd (Prod.snd (Prod.snd d)))) < (List.length (Prod.fst (Prod.snd d)) : Int)))
  (grd (inb (Prod.fst (Prod.snd d)) (Prod.snd (Prod.snd (Prod.snd (Prod.snd (Prod.snd d))))))
    (grd
      (fits
        (List.length (Prod.fst (Prod.snd (Prod.snd (Prod.snd (Prod.snd d))))) +
          List.length
            [(IntKind.wrap IntKind.i64
                  (IntKind.wrap IntKind.i64 ((List.length (Prod.fst d) : Int) - 1) -
                    Prod.fst (rdL (Prod.fst (Prod.snd d)) (Prod.snd (Prod.snd (Prod.snd (Prod.snd (Prod.snd d))))) (0, 0, 0, 0, ()))),
                IntKind.wrap IntKind.i64
                  (IntKind.wrap IntKind.i64 ((List.length (Prod.fst d) : Int) - 1) -
                    Prod.fst (Prod.snd (rdL (Prod.fst (Prod.snd d)) (Prod.snd (Prod.snd (Prod.snd (Prod.snd (Prod.snd d))))) (0, 0, 0, 0, ())))),
                Prod.fst
                  (Prod.snd (Prod.snd (rdL (Prod.fst (Prod.snd d)) (Prod.snd (Prod.snd (Prod.snd (Prod.snd (Prod.snd d))))) (0, 0, 0, 0, ())))),
                Prod.fst
                  (Prod.snd
                    (Prod.snd (Prod.snd (rdL (Prod.fst (Prod.snd d)) (Prod.snd (Prod.snd (Prod.snd (Prod.snd (Prod.snd d))))) (0, 0, 0, 0, ()))))),
                ())])
        32)
      (ih
        (Prod.fst d, Prod.fst (Prod.snd d), Prod.fst (Prod.snd (Prod.snd d)), Prod.fst (Prod.snd (Prod.snd (Prod.snd d))),
          Prod.fst (Prod.snd (Prod.snd (Prod.snd (Prod.snd d)))) ++
            [(IntKind.wrap IntKind.i64
                  (IntKind.wrap IntKind.i64 ((List.length (Prod.fst d) : Int) - 1) -
                    Prod.fst (rdL (Prod.fst (Prod.snd d)) (Prod.snd (Prod.snd (Prod.snd (Prod.snd (Prod.snd d))))) (0, 0, 0, 0, ()))),
                IntKind.wrap IntKind.i64
                  (IntKind.wrap IntKind.i64 ((List.length (Prod.fst d) : Int) - 1) -
                    Prod.fst (Prod.snd (rdL (Prod.fst (Prod.snd d)) (Prod.snd (Prod.snd (Prod.snd (Prod.snd (Prod.snd d))))) (0, 0, 0, 0, ())))),
                Prod.fst
                  (Prod.snd (Prod.snd (rdL (Prod.fst (Prod.snd d)) (Prod.snd (Prod.snd (Prod.snd (Prod.snd (Prod.snd d))))) (0, 0, 0, 0, ())))),
                Prod.fst
                  (Prod.snd
                    (Prod.snd (Prod.snd (rdL (Prod.fst (Prod.snd d)) (Prod.snd (Prod.snd (Prod.snd (Prod.snd (Prod.snd d))))) (0, 0, 0, 0, ()))))),
                ())],
          IntKind.wrap IntKind.i64 (Prod.snd (Prod.snd (Prod.snd (Prod.snd (Prod.snd d)))) + 1)))))
  (J
    (Prod.fst d, Prod.fst (Prod.snd d), Prod.fst (Prod.snd (Prod.snd d)), Prod.fst (Prod.snd (Prod.snd (Prod.snd d))),
      Prod.fst (Prod.snd (Prod.snd (Prod.snd (Prod.snd d))))))
def VF.laws_FnGroupTrials.j4 (k : Nat) (d : List (List (List UInt8 × Int × Unit)) ×
  List (Int × Int × Int × Int × Unit) × List (List UInt8 × Int × Unit) × List (List (List UInt8 × Int × Unit)) × List (Int × Int × Int × Int × Unit)) : Option ((Bool × Unit) × PUnit) :=
  join (VF.laws_FnGroupTrials.j2 k)
  fun
    (J :
      List (List (List UInt8 × Int × Unit)) ×
          List (Int × Int × Int × Int × Unit) ×
            List (List UInt8 × Int × Unit) × List (List (List UInt8 × Int × Unit)) × List (Int × Int × Int × Int × Unit) →
        Option ((Bool × Unit) × PUnit)) =>
  iter (VF.laws_FnGroupTrials.l3 J) k
    (Prod.fst d, Prod.fst (Prod.snd d), Prod.fst (Prod.snd (Prod.snd d)), Prod.fst (Prod.snd (Prod.snd (Prod.snd d))),
      Prod.snd (Prod.snd (Prod.snd (Prod.snd d))), 0)
def VF.laws_FnGroupTrials.l5 (J : List (List (List UInt8 × Int × Unit)) ×
    List (Int × Int × Int × Int × Unit) ×
      List (List UInt8 × Int × Unit) × List (List (List UInt8 × Int × Unit)) × List (Int × Int × Int × Int × Unit) →
  Option ((Bool × Unit) × PUnit)) (ih : List (List (List UInt8 × Int × Unit)) ×
    List (Int × Int × Int × Int × Unit) ×
      List (List UInt8 × Int × Unit) × List (List (List UInt8 × Int × Unit)) × List (Int × Int × Int × Int × Unit) × Int →
  Option ((Bool × Unit) × PUnit)) (d : List (List (List UInt8 × Int × Unit)) ×
  List (Int × Int × Int × Int × Unit) ×
    List (List UInt8 × Int × Unit) × List (List (List UInt8 × Int × Unit)) × List (Int × Int × Int × Int × Unit) × Int) : Option ((Bool × Unit) × PUnit) :=
  sel (decide (0 ≤ Prod.snd (Prod.snd (Prod.snd (Prod.snd (Prod.snd d))))))
  (grd (inb (Prod.fst d) (Prod.snd (Prod.snd (Prod.snd (Prod.snd (Prod.snd d))))))
    (grd
      (fits
        (List.length (Prod.fst (Prod.snd (Prod.snd (Prod.snd d)))) +
          List.length [rdL (Prod.fst d) (Prod.snd (Prod.snd (Prod.snd (Prod.snd (Prod.snd d))))) []])
        24)
      (ih
        (Prod.fst d, Prod.fst (Prod.snd d), Prod.fst (Prod.snd (Prod.snd d)),
          Prod.fst (Prod.snd (Prod.snd (Prod.snd d))) ++ [rdL (Prod.fst d) (Prod.snd (Prod.snd (Prod.snd (Prod.snd (Prod.snd d))))) []],
          Prod.fst (Prod.snd (Prod.snd (Prod.snd (Prod.snd d)))),
          IntKind.wrap IntKind.i64 (Prod.snd (Prod.snd (Prod.snd (Prod.snd (Prod.snd d)))) - 1)))))
  (J
    (Prod.fst d, Prod.fst (Prod.snd d), Prod.fst (Prod.snd (Prod.snd d)), Prod.fst (Prod.snd (Prod.snd (Prod.snd d))),
      Prod.fst (Prod.snd (Prod.snd (Prod.snd (Prod.snd d))))))
def VF.laws_FnGroupTrials.j6 (k : Nat) (d : List (List (List UInt8 × Int × Unit)) × List (Int × Int × Int × Int × Unit)) : Option ((Bool × Unit) × PUnit) :=
  bnd (VF.impl_GroupTrial k (Prod.fst d) (Prod.snd d)) fun (y : (List (List UInt8 × Int × Unit) × Bool × Unit) × PUnit) =>
  bnd (VF.spec_GroupTrial k (Prod.fst d) (Prod.snd d)) fun (y_1 : (List (List UInt8 × Int × Unit) × Bool × Unit) × PUnit) =>
    sel (!Prod.fst (Prod.snd (Prod.fst y)) == Prod.fst (Prod.snd (Prod.fst y_1))) (some ((false, ()), ()))
      (sel (!Prod.fst (Prod.snd (Prod.fst y))) (some ((decide ((List.length (Prod.fst (Prod.fst y)) : Int) = 0), ()), ()))
        (join (VF.laws_FnGroupTrials.j4 k)
          fun
            (J :
              List (List (List UInt8 × Int × Unit)) ×
                  List (Int × Int × Int × Int × Unit) ×
                    List (List UInt8 × Int × Unit) × List (List (List UInt8 × Int × Unit)) × List (Int × Int × Int × Int × Unit) →
                Option ((Bool × Unit) × PUnit)) =>
          iter (VF.laws_FnGroupTrials.l5 J) k
            (Prod.fst d, Prod.snd d, Prod.fst (Prod.fst y), [], [], IntKind.wrap IntKind.i64 ((List.length (Prod.fst d) : Int) - 1))))
def VF.laws_FnGroupTrials (k : Nat) (a0 : List Int) : Option ((Bool × Unit) × PUnit) :=
  bnd (VF.laws_big k a0) fun (y : (Bool × Unit) × PUnit) =>
  sel (Prod.fst (Prod.fst y)) (some ((true, ()), ()))
    (join (VF.laws_FnGroupTrials.j6 k)
      fun (J : List (List (List UInt8 × Int × Unit)) × List (Int × Int × Int × Int × Unit) → Option ((Bool × Unit) × PUnit)) =>
      bnd (VF.spec_DrawGroupTrial k a0) fun (y : (List (List (List UInt8 × Int × Unit)) × List (Int × Int × Int × Int × Unit) × Unit) × PUnit) =>
        J (Prod.fst (Prod.fst y), Prod.fst (Prod.snd (Prod.fst y))))
