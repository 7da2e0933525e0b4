/- Books are the same as themselves. -/
import Derived.Test.YtkdkpfnglogpdaaWTe
import Derived.Test.YtkdkpfnglogpdaaVHd
set_option linter.unusedVariables false
set_option linter.unusedSimpArgs false
namespace VM
open Go

theorem iter_go {R D : Type} {s : (D → Option R) → D → Option R} (st : Nat → D) (n : Nat) (r : Option R) (hstep : ∀ ih i, i < n → s ih (st i) = ih (st (i + 1))) (hend : ∀ ih, s ih (st n) = r) {k : Nat} (hk : n < k) : iter s k (st 0) = r := by
  have key : ∀ m i, i + m = n → ∀ k, m < k → iter s k (st i) = r := by
    intro m
    induction m with
    | zero =>
      intro i hi k hk
      obtain ⟨k, rfl⟩ : ∃ p, k = p + 1 := ⟨k - 1, by omega⟩
      have : i = n := by omega
      subst this
      rw [iter_succ, hend]
    | succ m ih =>
      intro i hi k hk
      obtain ⟨k, rfl⟩ : ∃ p, k = p + 1 := ⟨k - 1, by omega⟩
      rw [iter_succ, hstep _ _ (by omega)]
      exact ih (i + 1) (by omega) k (by omega)
  exact key n 0 (by omega) k hk

theorem inb_nat {α : Type} {l : List α} {i : Nat} (h : i < l.length) : inb l (i : Int) = true := inb_of (by omega) (by omega)
theorem lt_nat {i n : Nat} (h : i < n) : decide ((i : Int) < (n : Int)) = true := by simp; omega
theorem w_nat {i n : Nat} (h : i < n) (hn : n ≤ 1000000000) : IntKind.wrap .i64 ((i : Int) + 1) = ((i + 1 : Nat) : Int) := by rw [w64 (by omega) (by omega)]; omega

theorem impl_sameShelf_refl {k : Nat} (hk : 1048577 < k) {s : TShelf} (h1 : s.2.1.length ≤ 1000) (h2 : s.2.2.1.length ≤ 1000) : VF.impl_sameShelf k s s = some ((true, ()), ()) := by
  unfold VF.impl_sameShelf
  simp only [join_eq, decide_true, Bool.not_true, sel_false]
  unfold VF.impl_sameShelf.j4
  simp only [join_eq]
  refine iter_go (fun i => ((s.1, s.2.1, s.2.2.1), (s.1, s.2.1, s.2.2.1), (s.2.1.length : Int), (i : Int))) s.2.1.length _ (fun ih i hi => ?_) (fun ih => ?_) (by omega)
  · unfold VF.impl_sameShelf.l3
    simp only [lt_nat hi, inb_nat hi, decide_true, Bool.not_true, sel_true, sel_false, grd_true, w_nat hi (by omega)]
  · unfold VF.impl_sameShelf.l3
    simp only [Int.lt_irrefl, decide_false, sel_false]
    unfold VF.impl_sameShelf.j2
    simp only [join_eq]
    refine iter_go (fun i => ((s.1, s.2.1, s.2.2.1), (s.1, s.2.1, s.2.2.1), (s.2.2.1.length : Int), (i : Int))) s.2.2.1.length _ (fun ih i hi => ?_) (fun ih => ?_) (by omega)
    · unfold VF.impl_sameShelf.l1
      simp only [lt_nat hi, inb_nat hi, decide_true, Bool.not_true, Bool.and_self, sel_true, sel_false, grd_true, w_nat hi (by omega)]
    · unfold VF.impl_sameShelf.l1
      simp only [Int.lt_irrefl, decide_false, sel_false]
      rfl

theorem impl_sameDoc_refl {k : Nat} (hk : 1048577 < k) {d : TDoc} (h1 : d.2.2.1.length ≤ 1048576) : VF.impl_sameDocument k d d = some ((true, ()), ()) := by
  unfold VF.impl_sameDocument
  simp only [join_eq, decide_true, Bool.not_true, sel_false]
  unfold VF.impl_sameDocument.j2
  simp only [join_eq]
  refine iter_go (fun i => ((d.1, d.2.1, d.2.2.1), (d.1, d.2.1, d.2.2.1), (d.2.2.1.length : Int), (i : Int))) d.2.2.1.length _ (fun ih i hi => ?_) (fun ih => ?_) (by omega)
  · unfold VF.impl_sameDocument.l1
    simp only [lt_nat hi, inb_nat hi, decide_true, Bool.not_true, Bool.and_self, sel_true, sel_false, grd_true, w_nat hi (by omega)]
  · unfold VF.impl_sameDocument.l1
    simp only [Int.lt_irrefl, decide_false, sel_false]
    rfl

theorem rdL_mem {α : Type} {l : List α} {i : Nat} (h : i < l.length) (z : α) : rdL l (i : Int) z ∈ l := by
  simp only [rdL, Int.toNat_natCast]
  rw [List.getD_eq_getElem?_getD, List.getElem?_eq_getElem h]
  exact List.getElem_mem h

theorem impl_same_refl {k : Nat} (hk : 1048577 < k) {b : TBooks} (hs : SmB b) : VF.impl_SameBooks k b b = some ((true, ()), ()) := by
  obtain ⟨⟨hl, hss⟩, hd, hdl⟩ := hs
  unfold VF.impl_SameBooks
  simp only [join_eq, decide_true, Bool.not_true, sel_false]
  unfold VF.impl_SameBooks.j4
  simp only [join_eq]
  refine iter_go (fun i => ((b.1, b.2.1, b.2.2.1), (b.1, b.2.1, b.2.2.1), (b.1.length : Int), (i : Int))) b.1.length _ (fun ih i hi => ?_) (fun ih => ?_) (by omega)
  · unfold VF.impl_SameBooks.l3
    have hx := hss _ (rdL_mem hi S0)
    simp only [lt_nat hi, inb_nat hi, sel_true, grd_true, w_nat hi (by omega)]
    rw [show VF.impl_sameShelf k ((rdL b.1 (i : Int) ([], [], [], ())).1, (rdL b.1 (i : Int) ([], [], [], ())).2.1, (rdL b.1 (i : Int) ([], [], [], ())).2.2.1, ()) ((rdL b.1 (i : Int) ([], [], [], ())).1, (rdL b.1 (i : Int) ([], [], [], ())).2.1, (rdL b.1 (i : Int) ([], [], [], ())).2.2.1, ()) = _ from impl_sameShelf_refl hk (s := rdL b.1 (i : Int) S0) hx.2.1 hx.2.2]
    rfl
  · unfold VF.impl_SameBooks.l3
    simp only [Int.lt_irrefl, decide_false, sel_false]
    unfold VF.impl_SameBooks.j2
    simp only [join_eq]
    refine iter_go (fun i => ((b.1, b.2.1, b.2.2.1), (b.1, b.2.1, b.2.2.1), (b.2.2.1.length : Int), (i : Int))) b.2.2.1.length _ (fun ih i hi => ?_) (fun ih => ?_) (by omega)
    · unfold VF.impl_SameBooks.l1
      have hx := hd.2 _ (rdL_mem hi (0, 0, [], ()))
      simp only [lt_nat hi, inb_nat hi, sel_true, grd_true, w_nat hi (by omega)]
      rw [show VF.impl_sameDocument k ((rdL b.2.2.1 (i : Int) (0, 0, [], ())).1, (rdL b.2.2.1 (i : Int) (0, 0, [], ())).2.1, (rdL b.2.2.1 (i : Int) (0, 0, [], ())).2.2.1, ()) ((rdL b.2.2.1 (i : Int) (0, 0, [], ())).1, (rdL b.2.2.1 (i : Int) (0, 0, [], ())).2.1, (rdL b.2.2.1 (i : Int) (0, 0, [], ())).2.2.1, ()) = _ from impl_sameDoc_refl hk (d := rdL b.2.2.1 (i : Int) (0, 0, [], ())) hx.1]
      rfl
    · unfold VF.impl_SameBooks.l1
      simp only [Int.lt_irrefl, decide_false, sel_false]
      rfl

theorem spec_same_refl {k : Nat} (hk : 1048577 < k) {b : TBooks} (hs : SmB b) : VF.spec_SameBooks k b b = some ((true, ()), ()) := by
  obtain ⟨⟨hl, hss⟩, hd, hdl⟩ := hs
  unfold VF.spec_SameBooks
  simp only [join_eq, decide_true, Bool.not_true, sel_false]
  unfold VF.spec_SameBooks.j12
  simp only [join_eq]
  refine iter_go (fun i => ((b.1, b.2.1, b.2.2.1), (b.1, b.2.1, b.2.2.1), (i : Int))) b.1.length _ (fun ih i hi => ?_) (fun ih => ?_) (by omega)
  · unfold VF.spec_SameBooks.l11
    have hx := hss _ (rdL_mem hi S0)
    simp only [lt_nat hi, inb_nat hi, sel_true, grd_true, join_eq, decide_true, Bool.not_true, sel_false]
    unfold VF.spec_SameBooks.j10
    simp only [join_eq]
    generalize hX : rdL b.1 (i : Int) ([], [], [], ()) = X at hx ⊢
    refine iter_go (fun j => ((b.1, b.2.1, b.2.2.1), (b.1, b.2.1, b.2.2.1), (i : Int), (X.1, X.2.1, X.2.2.1), (X.1, X.2.1, X.2.2.1), (j : Int))) X.2.1.length _ (fun ih j hj => ?_) (fun ih => ?_) (by omega)
    · unfold VF.spec_SameBooks.l9
      simp only [lt_nat hj, inb_nat hj, decide_true, Bool.not_true, Bool.and_self, sel_true, sel_false, grd_true, w_nat hj (by omega)]
    · unfold VF.spec_SameBooks.l9
      simp only [Int.lt_irrefl, decide_false, sel_false]
      unfold VF.spec_SameBooks.j8
      refine iter_go (fun j => ((b.1, b.2.1, b.2.2.1), (b.1, b.2.1, b.2.2.1), (i : Int), (X.1, X.2.1, X.2.2.1), (X.1, X.2.1, X.2.2.1), (j : Int))) X.2.2.1.length _ (fun ih j hj => ?_) (fun ih => ?_) (by omega)
      · unfold VF.spec_SameBooks.l7
        simp only [lt_nat hj, inb_nat hj, decide_true, Bool.not_true, Bool.and_self, sel_true, sel_false, grd_true, w_nat hj (by omega)]
      · unfold VF.spec_SameBooks.l7
        simp only [Int.lt_irrefl, decide_false, sel_false]
        unfold VF.spec_SameBooks.j6
        simp only [w_nat hi (by omega)]
  · unfold VF.spec_SameBooks.l11
    simp only [Int.lt_irrefl, decide_false, sel_false]
    unfold VF.spec_SameBooks.j5
    simp only [join_eq]
    refine iter_go (fun i => ((b.1, b.2.1, b.2.2.1), (b.1, b.2.1, b.2.2.1), (i : Int))) b.2.2.1.length _ (fun ih i hi => ?_) (fun ih => ?_) (by omega)
    · unfold VF.spec_SameBooks.l4
      have hx := hd.2 _ (rdL_mem hi (0, 0, [], ()))
      simp only [lt_nat hi, inb_nat hi, sel_true, grd_true, join_eq, decide_true, Bool.not_true, sel_false]
      unfold VF.spec_SameBooks.j3
      generalize hX : rdL b.2.2.1 (i : Int) (0, 0, [], ()) = X at hx ⊢
      have hx1 := hx.1
      refine iter_go (fun j => ((b.1, b.2.1, b.2.2.1), (b.1, b.2.1, b.2.2.1), (i : Int), (X.1, X.2.1, X.2.2.1), (X.1, X.2.1, X.2.2.1), (j : Int))) X.2.2.1.length _ (fun ih j hj => ?_) (fun ih => ?_) (by omega)
      · unfold VF.spec_SameBooks.l2
        simp only [lt_nat hj, inb_nat hj, decide_true, Bool.not_true, Bool.and_self, sel_true, sel_false, grd_true, w_nat hj (by omega)]
      · unfold VF.spec_SameBooks.l2
        simp only [Int.lt_irrefl, decide_false, sel_false]
        unfold VF.spec_SameBooks.j1
        simp only [w_nat hi (by omega)]
    · unfold VF.spec_SameBooks.l4
      simp only [Int.lt_irrefl, decide_false, sel_false]
      rfl
end VM
