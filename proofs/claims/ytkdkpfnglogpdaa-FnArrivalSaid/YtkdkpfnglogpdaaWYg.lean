/- Balances, computed; books that agree. -/
import Derived.Test.YtkdkpfnglogpdaaWYf
set_option linter.unusedVariables false
set_option linter.unusedSimpArgs false
namespace VM
open Go

theorem areDoc_day0 {k : Nat} {l : List Doc} (h : areDoc k l = true) : ∀ d ∈ l, 0 ≤ d.2.1 ∧ d.2.1 ≤ 999 := by
  simp only [areDoc, Bool.and_eq_true, decide_eq_true_eq] at h
  intro d hd
  obtain ⟨q, hq⟩ := allP_mem h.1 d hd
  simp only [okDoc, inB, Bool.and_eq_true, decide_eq_true_eq] at hq
  omega

theorem W_stepP (a x y : Int) : W64 (W64 (a + x) + y) = W64 (a + (x + y)) := by simp only [W64, IntKind.wrap_i64]; omega
theorem balE_cons (e : TEnt) (l : List TEnt) (a : Key) : balE (e :: l) a = (if e.1 = a then e.2.1 else 0) + balE l a := by simp [balE]
theorem balD_cons (d : TDoc) (l : List TDoc) (a : Key) : balD (d :: l) a = balE d.2.2.1 a + balD l a := by simp [balD]

theorem impl_Bal_eq {k : Nat} (hk : 1048577 < k) {l : List TDoc} (hs : SmD l) (ha : areDoc k l = true) (a : Key) : VF.impl_BalanceOf k l a 999 = some ((W64 (balD l a), ()), ()) := by
  have hlen := areDoc_len ha
  have hday := areDoc_day0 ha
  unfold VF.impl_BalanceOf
  rw [impl_AreDocuments_eq hk hs]
  simp only [bnd_some', ha, Bool.not_true, sel_false, join_eq]
  have := iter_run (s := VF.impl_BalanceOf.l3 k a 999 VF.impl_BalanceOf.j0) (st := fun (s : Int) (i : Nat) => (s, l, (l.length : Int), (i : Int))) l (fun post s => some ((W64 (s + balD post a), ()), ())) (fun _ s => W64 s = s)
    (fun ih s pre x post e h hI => by
      have hl2 : pre.length + (post.length + 1) = l.length := by rw [e]; simp
      have hx := hday x (by rw [e]; simp)
      have hxl := (hs.2 x (by rw [e]; simp)).1
      unfold VF.impl_BalanceOf.l3
      have c1 : decide ((pre.length : Int) < (l.length : Int)) = true := by simp; omega
      simp only [c1, sel_true, join_eq]
      rw [inb_at e rfl, rdL_at e rfl]
      simp only [grd_true]
      have h3 := iter_run (s := VF.impl_BalanceOf.l2 a 999 (VF.impl_BalanceOf.j1 ih)) (st := fun (s : Int) (j : Nat) => (s, (x.1, x.2.1, x.2.2.1), l, (l.length : Int), (pre.length : Int), x.2.2.1, (x.2.2.1.length : Int), (j : Int))) x.2.2.1
        (fun po s => VF.impl_BalanceOf.j1 ih (W64 (s + balE po a), l, (l.length : Int), (pre.length : Int))) (fun _ s => W64 s = s)
        (fun ih2 s2 p y po e2 h2 hI2 => by
          have hl3 : p.length + (po.length + 1) = x.2.2.1.length := by rw [e2]; simp
          unfold VF.impl_BalanceOf.l2
          have c2 : decide ((p.length : Int) < (x.2.2.1.length : Int)) = true := by simp; omega
          have c3 : decide (x.2.1 ≤ 999) = true := by simp; omega
          simp only [c2, c3, sel_true]
          rw [inb_at e2 rfl, rdL_at e2 rfl, w64 (x := (p.length : Int) + 1) (by omega) (by omega)]
          simp only [grd_true, sel_if, decide_eq_true_eq]
          rw [balE_cons]
          by_cases hy : y.1 = a
          · rw [if_pos hy, if_pos hy]
            have := hI2 (W64 (s2 + y.2.1)) (W_W _)
            rw [W_stepP] at this
            exact this
          · rw [if_neg hy, if_neg hy, Int.zero_add]
            exact hI2 s2 h2)
        (fun ih2 s2 h2 => by
          unfold VF.impl_BalanceOf.l2
          simp only [Int.lt_irrefl, decide_false, sel_false]
          rw [show balE [] a = 0 from rfl, Int.add_zero, h2])
        (k := k) (by omega) (a := s) h
      refine Eq.trans h3 ?_
      unfold VF.impl_BalanceOf.j1
      simp only
      rw [w64 (x := (pre.length : Int) + 1) (by omega) (by omega)]
      have := hI (W64 (s + balE x.2.2.1 a)) (W_W _)
      rw [W_stepP] at this
      rw [balD_cons]
      exact this)
    (fun ih s h => by
      unfold VF.impl_BalanceOf.l3
      simp only [Int.lt_irrefl, decide_false, sel_false, VF.impl_BalanceOf.j0]
      rw [show balD [] a = 0 from rfl, Int.add_zero, h])
    (k := k) (by omega) (a := 0) (W_id (by omega) (by omega))
  have h2 : iter (VF.impl_BalanceOf.l3 k a 999 VF.impl_BalanceOf.j0) k (0, l, (l.length : Int), 0) = _ := this
  rw [h2, Int.zero_add]

theorem spec_Bal_eq {k : Nat} (hk : 1048577 < k) {l : List TDoc} (hs : SmD l) (ha : areDoc k l = true) (a : Key) : VF.spec_BalanceOf k l a 999 = some ((W64 (balD l a), ()), ()) := by
  have hlen := areDoc_len ha
  have hday := areDoc_day0 ha
  unfold VF.spec_BalanceOf
  simp only [join_eq]
  have := iter_run (s := VF.spec_BalanceOf.l3 k l a 999 VF.spec_BalanceOf.j0) (st := fun (s : Int) (i : Nat) => (s, (i : Int))) l (fun post s => some ((W64 (s + balD post a), ()), ())) (fun _ s => W64 s = s)
    (fun ih s pre x post e h hI => by
      have hl2 : pre.length + (post.length + 1) = l.length := by rw [e]; simp
      have hx := hday x (by rw [e]; simp)
      have hxl := (hs.2 x (by rw [e]; simp)).1
      unfold VF.spec_BalanceOf.l3
      have c1 : decide ((pre.length : Int) < (l.length : Int)) = true := by simp; omega
      simp only [c1, sel_true, join_eq]
      rw [spec_AreDocuments_eq hk hs]
      simp only [bnd_some', ha, sel_true]
      have h3 := iter_run (s := VF.spec_BalanceOf.l2 l a 999 (VF.spec_BalanceOf.j1 ih)) (st := fun (s : Int) (j : Nat) => (s, (pre.length : Int), (j : Int))) x.2.2.1
        (fun po s => VF.spec_BalanceOf.j1 ih (W64 (s + balE po a), (pre.length : Int))) (fun _ s => W64 s = s)
        (fun ih2 s2 p y po e2 h2 hI2 => by
          have hl3 : p.length + (po.length + 1) = x.2.2.1.length := by rw [e2]; simp
          unfold VF.spec_BalanceOf.l2
          simp only
          rw [inb_at e rfl, rdL_at e rfl]
          have c2 : decide ((p.length : Int) < (x.2.2.1.length : Int)) = true := by simp; omega
          have c3 : decide (x.2.1 ≤ 999) = true := by simp; omega
          simp only [c2, c3, sel_true, grd_true]
          rw [inb_at e2 rfl, rdL_at e2 rfl, w64 (x := (p.length : Int) + 1) (by omega) (by omega)]
          simp only [grd_true, sel_if, decide_eq_true_eq]
          rw [balE_cons]
          by_cases hy : y.1 = a
          · rw [if_pos hy, if_pos hy]
            have := hI2 (W64 (s2 + y.2.1)) (W_W _)
            rw [W_stepP] at this
            exact this
          · rw [if_neg hy, if_neg hy, Int.zero_add]
            exact hI2 s2 h2)
        (fun ih2 s2 h2 => by
          unfold VF.spec_BalanceOf.l2
          simp only
          rw [inb_at e rfl, rdL_at e rfl]
          simp only [Int.lt_irrefl, decide_false, sel_false, grd_true]
          rw [show balE [] a = 0 from rfl, Int.add_zero, h2])
        (k := k) (by omega) (a := s) h
      refine Eq.trans h3 ?_
      unfold VF.spec_BalanceOf.j1
      simp only
      rw [w64 (x := (pre.length : Int) + 1) (by omega) (by omega)]
      have := hI (W64 (s + balE x.2.2.1 a)) (W_W _)
      rw [W_stepP] at this
      rw [balD_cons]
      exact this)
    (fun ih s h => by
      unfold VF.spec_BalanceOf.l3
      simp only [Int.lt_irrefl, decide_false, sel_false, VF.spec_BalanceOf.j0]
      rw [show balD [] a = 0 from rfl, Int.add_zero, h])
    (k := k) (by omega) (a := 0) (W_id (by omega) (by omega))
  have h2 : iter (VF.spec_BalanceOf.l3 k l a 999 VF.spec_BalanceOf.j0) k (0, 0) = _ := this
  rw [h2, Int.zero_add]

theorem impl_agree {k : Nat} (hk : 1048577 < k) {b : TBooks} (hs : SmB b) (h : AgrB k b) : VF.impl_BooksAgree k b = some ((true, ()), ()) := by
  obtain ⟨ha, h1, h2⟩ := h
  have hD := (areB_iff.1 ha).2.2.2
  unfold VF.impl_BooksAgree
  rw [show VF.impl_AreBooks k (b.1, b.2.1, b.2.2.1, ()) = _ from impl_AreB_eq hk hs, impl_Bal_eq hk hs.2.1 hD, impl_Bal_eq hk hs.2.1 hD, show VF.impl_StockWorth k (b.1, b.2.1, b.2.2.1, ()) = _ from impl_Stock_eq hk hs ha]
  simp only [bnd_some', ha, sel_true]
  rw [show W64 (balD b.2.2.1 [83, 84, 79, 67, 75]) = W64 (worthS b.1) from h1, show W64 (balD b.2.2.1 [87, 79, 82, 75]) = b.2.1 from h2]
  simp
theorem spec_agree {k : Nat} (hk : 1048577 < k) {b : TBooks} (hs : SmB b) (h : AgrB k b) : VF.spec_BooksAgree k b = some ((true, ()), ()) := by
  obtain ⟨ha, h1, h2⟩ := h
  have hD := (areB_iff.1 ha).2.2.2
  unfold VF.spec_BooksAgree
  rw [show VF.spec_AreBooks k (b.1, b.2.1, b.2.2.1, ()) = _ from spec_AreB_eq hk hs, spec_Bal_eq hk hs.2.1 hD, spec_Bal_eq hk hs.2.1 hD, show VF.spec_StockWorth k (b.1, b.2.1, b.2.2.1, ()) = _ from spec_Stock_eq hk hs ha]
  simp only [bnd_some', ha, sel_true]
  rw [show W64 (balD b.2.2.1 [83, 84, 79, 67, 75]) = W64 (worthS b.1) from h1, show W64 (balD b.2.2.1 [87, 79, 82, 75]) = b.2.1 from h2]
  simp
end VM
