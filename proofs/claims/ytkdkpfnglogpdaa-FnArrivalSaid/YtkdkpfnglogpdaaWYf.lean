/- What shelves are worth: computed. -/
import Derived.Test.YtkdkpfnglogpdaaWYe
import Derived.Test.YtkdkpfnglogpdaaWVc
set_option linter.unusedVariables false
set_option linter.unusedSimpArgs false
namespace VM
open Go

theorem W_step (a x y : Int) : W64 (W64 (a + W64 x) + y) = W64 (a + (x + y)) := by simp only [W64, IntKind.wrap_i64]; omega
theorem W_step' (a x z y : Int) : W64 (W64 (W64 (a + x) - z) + y) = W64 (a + (x - z + y)) := by simp only [W64, IntKind.wrap_i64]; omega

theorem impl_Worth_eq {k : Nat} (hk : 1048577 < k) {l : List TLay} (ha : areL l = true) : VF.impl_WorthOf k l = some ((W64 (worthL l), ()), ()) := by
  have hlen := areL_len ha
  have hok := areL_ok ha
  unfold VF.impl_WorthOf
  rw [impl_AreL_eq hk (by omega)]
  simp only [bnd_some', ha, Bool.not_true, sel_false, join_eq]
  have := iter_run (s := VF.impl_WorthOf.l1 k VF.impl_WorthOf.j0) (st := fun (a : Int) (i : Nat) => (a, l, (l.length : Int), (i : Int))) l (fun post a => some ((W64 (a + worthL post), ()), ())) (fun _ a => W64 a = a)
    (fun ih a pre x post e h hI => by
      have hl2 : pre.length + (post.length + 1) = l.length := by rw [e]; simp
      have hx := hok x (by rw [e]; simp)
      unfold LayOk at hx
      unfold VF.impl_WorthOf.l1
      have c1 : decide ((pre.length : Int) < (l.length : Int)) = true := by simp; omega
      simp only [c1, sel_true]
      rw [inb_at e rfl, rdL_at e rfl, w64 (x := (pre.length : Int) + 1) (by omega) (by omega)]
      rw [show VF.impl_firstCost k (x.1, x.2.1, x.2.2.1, ()) x.2.2.1 = _ from impl_fc_eq k (x := x) (by omega) _]
      simp only [grd_true, bnd_some']
      have := hI (W64 (a + W64 (x.2.1 - fcL x x.2.2.1))) (W_W _)
      rw [W_step] at this
      rw [worthL_cons]
      exact this)
    (fun ih a h => by
      unfold VF.impl_WorthOf.l1
      simp only [Int.lt_irrefl, decide_false, sel_false, VF.impl_WorthOf.j0]
      rw [show worthL [] = 0 from rfl, Int.add_zero, h])
    (k := k) (by omega) (a := 0) (W_id (by omega) (by omega))
  have h2 : iter (VF.impl_WorthOf.l1 k VF.impl_WorthOf.j0) k (0, l, (l.length : Int), 0) = _ := this
  rw [h2, Int.zero_add]

theorem spec_Worth_eq {k : Nat} (hk : 1048577 < k) {l : List TLay} (ha : areL l = true) : VF.spec_WorthOf k l = some ((W64 (worthL l), ()), ()) := by
  have hlen := areL_len ha
  have hok := areL_ok ha
  unfold VF.spec_WorthOf
  simp only [join_eq]
  have := iter_run (s := VF.spec_WorthOf.l1 k l VF.spec_WorthOf.j0) (st := fun (a : Int) (i : Nat) => (a, (i : Int))) l (fun post a => some ((W64 (a + worthL post), ()), ())) (fun _ a => W64 a = a)
    (fun ih a pre x post e h hI => by
      have hl2 : pre.length + (post.length + 1) = l.length := by rw [e]; simp
      have hx := hok x (by rw [e]; simp)
      unfold LayOk at hx
      unfold VF.spec_WorthOf.l1
      have c1 : decide ((pre.length : Int) < (l.length : Int)) = true := by simp; omega
      simp only [c1, sel_true]
      rw [spec_AreL_eq hk (by omega), inb_at e rfl, rdL_at e rfl, w64 (x := (pre.length : Int) + 1) (by omega) (by omega)]
      rw [show VF.spec_l31Cost k (x.1, x.2.1, x.2.2.1, ()) x.2.2.1 = _ from spec_fc_eq k (x := x) (by omega) _]
      simp only [grd_true, bnd_some', ha, sel_true]
      have := hI (W64 (W64 (a + x.2.1) - fcL x x.2.2.1)) (W_W _)
      rw [W_step'] at this
      rw [worthL_cons]
      exact this)
    (fun ih a h => by
      unfold VF.spec_WorthOf.l1
      simp only [Int.lt_irrefl, decide_false, sel_false, VF.spec_WorthOf.j0]
      rw [show worthL [] = 0 from rfl, Int.add_zero, h])
    (k := k) (by omega) (a := 0) (W_id (by omega) (by omega))
  have h2 : iter (VF.spec_WorthOf.l1 k l VF.spec_WorthOf.j0) k (0, 0) = _ := this
  rw [h2, Int.zero_add]

theorem worthS_cons (s : TShelf) (l : List TShelf) : worthS (s :: l) = worthL s.2.2.1 + worthS l := by simp [worthS]

theorem impl_Stock_eq {k : Nat} (hk : 1048577 < k) {b : TBooks} (hs : SmB b) (ha : areB k b = true) : VF.impl_StockWorth k b = some ((W64 (worthS b.1), ()), ()) := by
  have hall := (areB_iff.1 ha).1.1
  have hlen := (areB_iff.1 ha).2.1
  unfold VF.impl_StockWorth
  rw [show VF.impl_AreBooks k (b.1, b.2.1, b.2.2.1, ()) = _ from impl_AreB_eq hk hs]
  simp only [bnd_some', ha, Bool.not_true, sel_false, join_eq]
  have := iter_run (s := VF.impl_StockWorth.l1 k VF.impl_StockWorth.j0) (st := fun (a : Int) (i : Nat) => (a, b.1, (b.1.length : Int), (i : Int))) b.1 (fun post a => some ((W64 (a + worthS post), ()), ())) (fun _ a => W64 a = a)
    (fun ih a pre x post e h hI => by
      have hl2 : pre.length + (post.length + 1) = b.1.length := by rw [e]; simp
      have hx := hall x (by rw [e]; simp)
      unfold VF.impl_StockWorth.l1
      have c1 : decide ((pre.length : Int) < (b.1.length : Int)) = true := by simp; omega
      simp only [c1, sel_true]
      rw [inb_at e rfl, rdL_at e rfl, w64 (x := (pre.length : Int) + 1) (by omega) (by omega), impl_Worth_eq hk hx.2.1]
      simp only [grd_true, bnd_some']
      have := hI (W64 (a + W64 (worthL x.2.2.1))) (W_W _)
      rw [W_step] at this
      rw [worthS_cons]
      exact this)
    (fun ih a h => by
      unfold VF.impl_StockWorth.l1
      simp only [Int.lt_irrefl, decide_false, sel_false, VF.impl_StockWorth.j0]
      rw [show worthS [] = 0 from rfl, Int.add_zero, h])
    (k := k) (by omega) (a := 0) (W_id (by omega) (by omega))
  have h2 : iter (VF.impl_StockWorth.l1 k VF.impl_StockWorth.j0) k (0, b.1, (b.1.length : Int), 0) = _ := this
  rw [h2, Int.zero_add]

theorem spec_Stock_eq {k : Nat} (hk : 1048577 < k) {b : TBooks} (hs : SmB b) (ha : areB k b = true) : VF.spec_StockWorth k b = some ((W64 (worthS b.1), ()), ()) := by
  have hall := (areB_iff.1 ha).1.1
  have hlen := (areB_iff.1 ha).2.1
  unfold VF.spec_StockWorth
  simp only [join_eq]
  have := iter_run (s := VF.spec_StockWorth.l1 k VF.spec_StockWorth.j0) (st := fun (a : Int) (i : Nat) => ((b.1, b.2.1, b.2.2.1), a, (i : Int))) b.1 (fun post a => some ((W64 (a + worthS post), ()), ())) (fun _ a => W64 a = a)
    (fun ih a pre x post e h hI => by
      have hl2 : pre.length + (post.length + 1) = b.1.length := by rw [e]; simp
      have hx := hall x (by rw [e]; simp)
      unfold VF.spec_StockWorth.l1
      have c1 : decide ((pre.length : Int) < (b.1.length : Int)) = true := by simp; omega
      simp only [c1, sel_true]
      rw [show VF.spec_AreBooks k (b.1, b.2.1, b.2.2.1, ()) = _ from spec_AreB_eq hk hs]
      rw [inb_at e rfl, rdL_at e rfl, w64 (x := (pre.length : Int) + 1) (by omega) (by omega), spec_Worth_eq hk hx.2.1]
      simp only [grd_true, bnd_some', ha, sel_true]
      have := hI (W64 (a + W64 (worthL x.2.2.1))) (W_W _)
      rw [W_step] at this
      rw [worthS_cons]
      exact this)
    (fun ih a h => by
      unfold VF.spec_StockWorth.l1
      simp only [Int.lt_irrefl, decide_false, sel_false, VF.spec_StockWorth.j0]
      rw [show worthS [] = 0 from rfl, Int.add_zero, h])
    (k := k) (by omega) (a := 0) (W_id (by omega) (by omega))
  have h2 : iter (VF.spec_StockWorth.l1 k VF.spec_StockWorth.j0) k ((b.1, b.2.1, b.2.2.1), 0, 0) = _ := this
  rw [h2, Int.zero_add]
end VM
