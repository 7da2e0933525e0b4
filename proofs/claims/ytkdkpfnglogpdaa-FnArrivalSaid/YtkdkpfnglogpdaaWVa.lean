/- The books of the reference. -/
import Derived.Test.YtkdkpfnglogpdaaWTe
import Derived.Test.YtkdkpfnglogpdaaWUb
set_option linter.unusedVariables false
set_option linter.unusedSimpArgs false
namespace VM
open Go

theorem spec_ids_eq {k : Nat} (hk : 1048577 < k) (b : List TShelf × Int × List TDoc) (i : Int) (X : List UInt8 × List Int × List TLay) (hl : X.2.1.length ≤ 1000) (J : (List TShelf × Int × List TDoc) × Int → Option ((Bool × Unit) × Unit)) :
    iter (VF.spec_AreBooks.l2 k J) k (b, i, X, 0) = sel (X.2.1.all (fun i => inB i 1 9999)) (J (b, i)) (some ((false, ()), ())) := by
  have := iter_all (s := VF.spec_AreBooks.l2 k J) (fun (j : Nat) => (b, i, X, (j : Int))) X.2.1 (fun i => inB i 1 9999) (some ((false, ()), ())) (J (b, i))
    (fun ih pre x post e => by
      have hl2 : pre.length + (post.length + 1) = X.2.1.length := by rw [e]; simp
      unfold VF.spec_AreBooks.l2
      have c1 : decide ((pre.length : Int) < (X.2.1.length : Int)) = true := by simp; omega
      simp only [c1, sel_true, l1In_eq]
      rw [inb_at e rfl, rdL_at e rfl, w64 (by omega) (by omega)]
      simp only [grd_true, bnd_some']
      cases inB x 1 9999 <;> rfl)
    (fun ih => by simp [VF.spec_AreBooks.l2])
    (k := k) (by omega)
  exact this

theorem spec_AreB_eq {k : Nat} (hk : 1048577 < k) {b : TBooks} (hs : SmB b) : VF.spec_AreBooks k b = some ((areB k b, ()), ()) := by
  obtain ⟨⟨hl, hss⟩, hd, hdl⟩ := hs
  unfold VF.spec_AreBooks
  rw [join_eq]
  have h1 := iter_allf (s := VF.spec_AreBooks.l4 k (VF.spec_AreBooks.j0 k)) (fun (_ : Unit) i => ((b.1, b.2.1, b.2.2.1), (i : Int))) b.1 (okS k) (fun s _ => s) (some ((false, ()), ())) (fun _ => VF.spec_AreBooks.j0 k (b.1, b.2.1, b.2.2.1)) (fun _ _ => True)
    (fun _ _ _ _ _ _ _ => trivial)
    (fun ih a pre x post hx _ => by
      have hl2 : pre.length + (post.length + 1) = b.1.length := by rw [hx]; simp
      have hsx := hss x (by rw [hx]; simp)
      unfold VF.spec_AreBooks.l4
      have c1 : decide ((pre.length : Int) < (b.1.length : Int)) = true := by simp; omega
      simp only [c1, sel_true, join_eq, VF.spec_AreBooks.j3]
      rw [inb_at hx rfl, rdL_at hx rfl, isC_eq (by omega) (by omega), spec_AreL_eq hk (by omega), spec_ids_eq hk _ _ _ (by simp only; omega)]
      simp only [VF.spec_AreBooks.j1]
      rw [w64 (x := (pre.length : Int) + 1) (by omega) (by omega)]
      simp only [grd_true, bnd_some', okS]
      have hlen : decide ((x.2.1.length : Int) = (x.2.2.1.length : Int)) = decide (x.2.1.length = x.2.2.1.length) := by by_cases h : x.2.1.length = x.2.2.1.length <;> simp [h] <;> omega
      rw [hlen]
      cases isC k x.1 <;> simp only [Bool.not_true, Bool.not_false, sel_true, sel_false, Bool.false_and, Bool.true_and]
      rcases List.eq_nil_or_concat pre with rfl | ⟨q, y, rfl⟩
      · have c3 : prevLt ([] : List TShelf) x = true := rfl
        simp only [c3, Bool.true_and]
        cases areL x.2.2.1 <;> cases decide (x.2.1.length = x.2.2.1.length) <;> cases x.2.1.all (fun i => inB i 1 9999) <;> rfl
      · have e1 : IntKind.wrap .i64 (((q.concat y).length : Int) - 1) = (q.length : Int) := by rw [w64 (by omega) (by omega)]; simp
        have hx' : b.1 = q ++ y :: (x :: post) := by rw [hx]; simp
        rw [e1, inb_at hx' rfl, rdL_at hx' rfl]
        have c2 : decide (0 < ((q.concat y).length : Int)) = true := by simp
        have c3 : prevLt (q.concat y) x = ltS y.1 x.1 := by simp [prevLt]
        simp only [c2, c3, sel_true, grd_true]
        cases ltS y.1 x.1 <;> cases areL x.2.2.1 <;> cases decide (x.2.1.length = x.2.2.1.length) <;> cases x.2.1.all (fun i => inB i 1 9999) <;> rfl)
    (fun ih a _ => by simp [VF.spec_AreBooks.l4])
    (k := k) (by omega) (a := ()) trivial
  rw [show ((0 : Nat) : Int) = 0 from rfl] at h1
  rw [h1]
  have h12 : decide ((b.1.length : Int) ≤ 12) = decide (b.1.length ≤ 12) := by by_cases h : b.1.length ≤ 12 <;> simp [h] <;> omega
  simp only [areB, VF.spec_AreBooks.j0, h12, l1In_eq, bnd_some']
  rw [spec_AreDocuments_eq hk hd]
  simp only [bnd_some']
  cases allP (okS k) [] b.1 <;> cases decide (b.1.length ≤ 12) <;> cases inB b.2.1 0 1000000000 <;> rfl

theorem spec_copyD_eq {k : Nat} (hk : 1048577 < k) {l : List TDoc} (hs : SmD l) : VF.spec_l35Copy k l = some ((l, ()), ()) := by
  obtain ⟨hl, hss⟩ := hs
  unfold VF.spec_l35Copy
  rw [join_eq]
  have := iter_run (s := VF.spec_l35Copy.l1 l VF.spec_l35Copy.j0) (st := fun (a : List TDoc) (i : Nat) => (a, (i : Int))) l (fun post a => some ((a ++ post, ()), ())) (fun pre a => a.length = pre.length)
    (fun ih a pre x post e h hI => by
      have hl2 : pre.length + (post.length + 1) = l.length := by rw [e]; simp
      have hx := (hss x (by rw [e]; simp)).1
      unfold VF.spec_l35Copy.l1
      have c1 : decide ((pre.length : Int) < (l.length : Int)) = true := by simp; omega
      simp only [c1, sel_true, List.nil_append]
      rw [inb_at e rfl, rdL_at e rfl, w64 (by omega) (by omega), fits_of (by decide) (by omega), fits_of (by decide) (by simp; omega)]
      simp only [grd_true]
      have := hI (a ++ [x]) (by simp [h])
      simpa using this)
    (fun ih a h => by simp [VF.spec_l35Copy.l1, VF.spec_l35Copy.j0])
    (k := k) (by omega) (a := []) rfl
  exact this

theorem spec_copyB_eq {k : Nat} (hk : 1048577 < k) {b : TBooks} (hs : SmB b) : VF.spec_l36Copy k b = some ((b, ()), ()) := by
  obtain ⟨⟨hl, hss⟩, hd, hdl⟩ := hs
  unfold VF.spec_l36Copy
  rw [spec_copyD_eq hk hd]
  simp only [bnd_some', join_eq]
  have := iter_run (s := VF.spec_l36Copy.l1 VF.spec_l36Copy.j0) (st := fun (a : List TShelf) (i : Nat) => ((b.1, b.2.1, b.2.2.1), (([] : List TShelf), (0 : Int), ([] : List TDoc)), (a, b.2.1, b.2.2.1), (i : Int))) b.1 (fun post a => some (((a ++ post, b.2.1, b.2.2.1, ()), ()), ())) (fun pre a => a.length = pre.length)
    (fun ih a pre x post e h hI => by
      have hl2 : pre.length + (post.length + 1) = b.1.length := by rw [e]; simp
      have hx := hss x (by rw [e]; simp)
      unfold VF.spec_l36Copy.l1
      have c1 : decide ((pre.length : Int) < (b.1.length : Int)) = true := by simp; omega
      simp only [c1, sel_true, List.nil_append]
      rw [inb_at e rfl, rdL_at e rfl, w64 (by omega) (by omega), fits_of (by decide) (by omega), fits_of (by decide) (by omega), fits_of (by decide) (by omega)]
      simp only [grd_true, bnd_some']
      have := hI (a ++ [x]) (by simp [h])
      simpa using this)
    (fun ih a h => by simp [VF.spec_l36Copy.l1, VF.spec_l36Copy.j0])
    (k := k) (by omega) (a := []) rfl
  exact this

theorem spec_shelf_eq {k : Nat} (hk : 1048577 < k) {b : TBooks} (hl : b.1.length ≤ 1000) (item : List UInt8) : VF.spec_l36Shelf k b item = some ((idxS b.1 item, ()), ()) := by
  unfold VF.spec_l36Shelf idxS
  simp only [join_eq]
  have := iter_run (A := Unit) (s := VF.spec_l36Shelf.l1 item VF.spec_l36Shelf.j0) (st := fun _ (i : Nat) => ((b.1, b.2.1, b.2.2.1), (i : Int))) b.1
    (fun post _ => some ((match post.findIdx? (fun o => decide (o.1 = item)) with | some j => ((b.1.length - post.length + j : Nat) : Int) | none => -1, ()), ())) (fun _ _ => True)
    (fun ih a pre x post e _ hI => by
      have hl2 : pre.length + (post.length + 1) = b.1.length := by rw [e]; simp
      unfold VF.spec_l36Shelf.l1
      have c1 : decide ((pre.length : Int) < (b.1.length : Int)) = true := by simp; omega
      simp only [c1, sel_true]
      rw [inb_at e rfl, rdL_at e rfl, w64 (by omega) (by omega)]
      simp only [grd_true, sel_if, decide_eq_true_eq, List.findIdx?_cons]
      by_cases hx : x.1 = item
      · simp only [hx, decide_true, if_true, List.length_cons, Nat.add_zero]
        rw [show b.1.length - (post.length + 1) = pre.length by omega]
      · simp only [hx, decide_false, if_false, Bool.false_eq_true]
        have := hI () trivial
        rw [show ((pre.length : Int) + 1) = ((pre.length + 1 : Nat) : Int) by omega, this]
        cases post.findIdx? (fun o => decide (o.1 = item)) with
        | none => rfl
        | some j =>
          simp only [Option.map_some, List.length_cons]
          rw [show b.1.length - post.length + j = b.1.length - (post.length + 1) + (j + 1) by omega])
    (fun ih a _ => by
      unfold VF.spec_l36Shelf.l1
      simp only [Int.lt_irrefl, decide_false, sel_false, VF.spec_l36Shelf.j0, List.findIdx?_nil])
    (k := k) (by omega) (a := ()) trivial
  have h2 : iter (VF.spec_l36Shelf.l1 item VF.spec_l36Shelf.j0) k ((b.1, b.2.1, b.2.2.1), 0) = _ := this
  rw [h2]
  simp only [Nat.sub_self, Nat.zero_add]
  cases b.1.findIdx? (fun o => decide (o.1 = item)) <;> rfl

theorem spec_late_eq {k : Nat} (hk : 1048577 < k) {l : List TLay} (hl : l.length ≤ 1000) (i v : Int) : VF.spec_AddLate k l i v = some ((((lateL l i v).getD ([], 0)).1, ((lateL l i v).getD ([], 0)).2, (lateL l i v).isSome, ()), ()) := by
  unfold VF.spec_AddLate
  simp only [join_eq]
  rw [spec_AreL_eq hk (by omega)]
  simp only [bnd_some', l1In_eq, sel_if, lateL]
  by_cases h : areL l = true
  case neg => simp [h]
  by_cases h2 : inB i 0 (IntKind.wrap .i64 ((l.length : Int) - 1)) = true
  case neg => simp [h, h2]
  by_cases h3 : inB v (-1000000000) 1000000000 = true
  case neg => simp [h, h2, h3]
  simp only [h, h2, h3, Bool.not_true, Bool.false_eq_true, if_false, and_self, if_true]
  unfold VF.spec_AddLate.j1
  rw [fits_of (by decide) (by omega)]
  simp only [grd_true, join_eq, List.nil_append]
  unfold VF.spec_AddLate.j0
  rw [w64 (by omega) (by omega)] at h2
  simp only [inB, Bool.and_eq_true, decide_eq_true_eq] at h2
  obtain ⟨pre, x, post, rfl, rfl⟩ := split_at (l := l) h2.1 (by omega)
  have hx := areL_ok h x (by simp)
  unfold LayOk at hx
  simp only [inb_mid, rdL_mid, wrL_mid, grd_true]
  have f1 : VF.spec_l31Cost k (x.1, x.2.1, x.2.2.1, ()) x.2.2.1 = _ := spec_fc_eq k (x := x) (by omega) _
  rw [f1, spec_AreL_eq hk (by simpa using Nat.le_trans hl (by decide))]
  simp only [bnd_some', sel_if]
  have f2 : VF.spec_l31Cost k (x.1, IntKind.wrap .i64 (x.2.1 + v), x.2.2.1, ()) x.2.2.1 = _ := spec_fc_eq k (x := (x.1, IntKind.wrap .i64 (x.2.1 + v), x.2.2)) (by simp only; omega) _
  rw [f2]
  by_cases h4 : areL (pre ++ (x.1, IntKind.wrap .i64 (x.2.1 + v), x.2.2) :: post) = true
  · simp [h4]
  · simp [h4]

/-! ### receive -/
theorem spec_recAt_ex {k : Nat} (hk : 1048577 < k) {pre post : List TShelf} {s : TShelf} (w : Int) (docs : List TDoc) (e : TEv) (z : List TShelf × Int × List TDoc) (h1 : s.2.1.length ≤ 1000) (h2 : s.2.2.1.length ≤ 1000) :
    ∃ b' code, VF.spec_l36Receive.j2 k ((pre ++ s :: post, w, docs), (e.1, e.2.1, e.2.2.1, e.2.2.2.1, e.2.2.2.2.1, e.2.2.2.2.2.1, e.2.2.2.2.2.2.1), z, (pre.length : Int)) = some ((b', code, ()), ()) ∧
      (code = 0 ↔ (if 12 < (pre ++ s :: post).length then none else recAt (pre ++ s :: post) (pre.length : Int) e).isSome = true) ∧
      ∀ sh, (if 12 < (pre ++ s :: post).length then none else recAt (pre ++ s :: post) (pre.length : Int) e) = some sh → b' = (sh, w, docs, ()) := by
  unfold VF.spec_l36Receive.j2 recAt
  simp only [inb_mid, rdL_mid, wrL_mid, grd_true, join_eq]
  rw [spec_recL_eq hk h2]
  simp only [bnd_some', sel_if]
  cases recL s.2.2.1 e.2.2.2.2.1 e.2.2.2.2.2.1 with
  | none =>
    simp only [Option.isSome_none, Bool.not_false, if_true, Option.map_none, ite_self]
    exact ⟨_, 3, rfl, by simp, by simp⟩
  | some ls =>
    simp only [Option.isSome_some, Option.getD_some, Option.map_some, Bool.not_true, Bool.false_eq_true, if_false]
    by_cases h12 : 12 < (pre ++ s :: post).length
    · have c1 : decide ((12 : Int) < ((pre ++ s :: post).length : Int)) = true := by simp only [decide_eq_true_eq]; omega
      simp only [c1, h12, if_true]
      exact ⟨_, 3, rfl, by simp, by simp⟩
    · have c1 : decide ((12 : Int) < ((pre ++ s :: post).length : Int)) = false := by simp only [decide_eq_false_iff_not]; omega
      simp only [c1, h12, if_false, Bool.false_eq_true]
      unfold VF.spec_l36Receive.j1 VF.spec_l36Receive.j0
      simp only [join_eq, inb_mid, rdL_mid, wrL_mid, grd_true, decide_true]
      rw [fits_of (by decide) (by omega)]
      refine ⟨_, 0, rfl, by simp, ?_⟩
      intro sh hsh
      simp only [Option.some.injEq] at hsh
      rw [← hsh]
end VM
