/- Late costs; shelves; books, as the program has them. -/
import Derived.Test.YtkdkpfnglogpdaaWTa
set_option linter.unusedVariables false
set_option linter.unusedSimpArgs false
namespace VM
open Go

def lateX (l : List TLay) (at' : Nat) (v : Int) : List TLay := l.modify at' (fun x => (x.1, IntKind.wrap .i64 (x.2.1 + v), x.2.2.1, ()))
def lateL (l : List TLay) (at' : Int) (v : Int) : Option (List TLay × Int) :=
  if areL l = true ∧ inB at' 0 (IntKind.wrap .i64 ((l.length : Int) - 1)) = true ∧ inB v (-1000000000) 1000000000 = true then
    (if areL (wrL l at' ((rdL l at' (0, 0, 0, ())).1, IntKind.wrap .i64 ((rdL l at' (0, 0, 0, ())).2.1 + v), (rdL l at' (0, 0, 0, ())).2.2)) = true then
      some (wrL l at' ((rdL l at' (0, 0, 0, ())).1, IntKind.wrap .i64 ((rdL l at' (0, 0, 0, ())).2.1 + v), (rdL l at' (0, 0, 0, ())).2.2),
        IntKind.wrap .i64 (fcL ((rdL l at' (0, 0, 0, ())).1, IntKind.wrap .i64 ((rdL l at' (0, 0, 0, ())).2.1 + v), (rdL l at' (0, 0, 0, ())).2.2) (rdL l at' (0, 0, 0, ())).2.2.1
          - fcL (rdL l at' (0, 0, 0, ())) (rdL l at' (0, 0, 0, ())).2.2.1))
     else none)
  else none

theorem split_at {α : Type} {l : List α} {i : Int} (h0 : 0 ≤ i) (h1 : i < (l.length : Int)) : ∃ pre x post, l = pre ++ x :: post ∧ i = (pre.length : Int) := by
  have h : i.toNat < l.length := by omega
  refine ⟨l.take i.toNat, l[i.toNat], l.drop (i.toNat + 1), ?_, ?_⟩
  · rw [← List.drop_eq_getElem_cons h, List.take_append_drop]
  · simp; omega

theorem impl_late_eq {k : Nat} (hk : 1048577 < k) {l : List TLay} (hl : l.length ≤ 1000) (i v : Int) : VF.impl_AddLate k l i v = some ((((lateL l i v).getD ([], 0)).1, ((lateL l i v).getD ([], 0)).2, (lateL l i v).isSome, ()), ()) := by
  unfold VF.impl_AddLate
  simp only [join_eq]
  rw [impl_AreL_eq hk (by omega)]
  simp only [bnd_some', in_eq, sel_if, lateL]
  by_cases h : areL l = true
  case neg => simp [h]
  by_cases h2 : inB i 0 (IntKind.wrap .i64 ((l.length : Int) - 1)) = true
  case neg => simp [h, h2]
  by_cases h3 : inB v (-1000000000) 1000000000 = true
  case neg => simp [h, h2, h3]
  simp only [h, h2, h3, Bool.not_true, Bool.false_eq_true, if_false, and_self, if_true]
  unfold VF.impl_AddLate.j0
  rw [copyL_eq (by omega)]
  simp only [bnd_some']
  rw [w64 (by omega) (by omega)] at h2
  simp only [inB, Bool.and_eq_true, decide_eq_true_eq] at h2
  obtain ⟨pre, x, post, rfl, rfl⟩ := split_at (l := l) h2.1 (by omega)
  have hx := areL_ok h x (by simp)
  unfold LayOk at hx
  simp only [inb_mid, rdL_mid, wrL_mid, grd_true]
  have f1 : VF.impl_firstCost k (x.1, x.2.1, x.2.2.1, ()) x.2.2.1 = _ := impl_fc_eq k (x := x) (by omega) _
  rw [f1, impl_AreL_eq hk (by simpa using Nat.le_trans hl (by decide))]
  simp only [bnd_some', sel_if]
  have f2 : VF.impl_firstCost k (x.1, IntKind.wrap .i64 (x.2.1 + v), x.2.2.1, ()) x.2.2.1 = _ := impl_fc_eq k (x := (x.1, IntKind.wrap .i64 (x.2.1 + v), x.2.2)) (by simp only; omega) _
  rw [f2]
  by_cases h4 : areL (pre ++ (x.1, IntKind.wrap .i64 (x.2.1 + v), x.2.2) :: post) = true
  · simp [h4]
  · simp [h4]

/-! ### shelves and books -/
abbrev prevLt (pre : List TShelf) (s : TShelf) : Bool := match pre.getLast? with | some p => ltS p.1 s.1 | none => true
def okS (k : Nat) (pre : List TShelf) (s : TShelf) : Bool := isC k s.1 && (prevLt pre s && (areL s.2.2.1 && (decide (s.2.1.length = s.2.2.1.length) && s.2.1.all (fun i => inB i 1 9999))))
def areB (k : Nat) (b : TBooks) : Bool := allP (okS k) [] b.1 && (decide (b.1.length ≤ 12) && (inB b.2.1 0 1000000000 && areDoc k b.2.2.1))
def SmS (l : List TShelf) : Prop := l.length ≤ 1000 ∧ ∀ s ∈ l, s.1.length ≤ 1048576 ∧ s.2.1.length ≤ 1000 ∧ s.2.2.1.length ≤ 1000
def SmB (b : TBooks) : Prop := SmS b.1 ∧ SmD b.2.2.1 ∧ b.2.2.1.length ≤ 1000

theorem impl_ids_eq {k : Nat} (hk : 1048577 < k) (b : List TShelf × Int × List TDoc) (L : List TShelf) (n i : Int) (ids : List Int) (hl : ids.length ≤ 1000) (J : (List TShelf × Int × List TDoc) × List TShelf × Int × Int → Option ((Bool × Unit) × Unit)) :
    iter (VF.impl_AreBooks.l2 k J) k (b, L, n, i, ids, (ids.length : Int), 0) = sel (ids.all (fun i => inB i 1 9999)) (J (b, L, n, i)) (some ((false, ()), ())) := by
  have := iter_all (s := VF.impl_AreBooks.l2 k J) (fun (j : Nat) => (b, L, n, i, ids, (ids.length : Int), (j : Int))) ids (fun i => inB i 1 9999) (some ((false, ()), ())) (J (b, L, n, i))
    (fun ih pre x post e => by
      have hl2 : pre.length + (post.length + 1) = ids.length := by rw [e]; simp
      unfold VF.impl_AreBooks.l2
      have c1 : decide ((pre.length : Int) < (ids.length : Int)) = true := by simp; omega
      simp only [c1, sel_true, in_eq]
      rw [inb_at e rfl, rdL_at e rfl, w64 (by omega) (by omega)]
      simp only [grd_true, bnd_some']
      cases inB x 1 9999 <;> rfl)
    (fun ih => by simp [VF.impl_AreBooks.l2])
    (k := k) (by omega)
  exact this

theorem impl_AreB_eq {k : Nat} (hk : 1048577 < k) {b : TBooks} (hs : SmB b) : VF.impl_AreBooks k b = some ((areB k b, ()), ()) := by
  obtain ⟨⟨hl, hss⟩, hd, hdl⟩ := hs
  unfold VF.impl_AreBooks
  rw [join_eq]
  have h1 := iter_allf (s := VF.impl_AreBooks.l4 k (VF.impl_AreBooks.j0 k)) (fun (_ : Unit) i => ((b.1, b.2.1, b.2.2.1), b.1, (b.1.length : Int), (i : Int))) b.1 (okS k) (fun s _ => s) (some ((false, ()), ())) (fun _ => VF.impl_AreBooks.j0 k (b.1, b.2.1, b.2.2.1)) (fun _ _ => True)
    (fun _ _ _ _ _ _ _ => trivial)
    (fun ih a pre x post hx _ => by
      have hl2 : pre.length + (post.length + 1) = b.1.length := by rw [hx]; simp
      have hsx := hss x (by rw [hx]; simp)
      unfold VF.impl_AreBooks.l4
      have c1 : decide ((pre.length : Int) < (b.1.length : Int)) = true := by simp; omega
      simp only [c1, sel_true, join_eq, VF.impl_AreBooks.j3]
      rw [inb_at hx rfl, rdL_at hx rfl, isCode_same, isC_eq (by omega) (by omega), impl_AreL_eq hk (by omega), impl_ids_eq hk _ _ _ _ _ (by omega)]
      simp only [VF.impl_AreBooks.j1]
      rw [w64 (x := (pre.length : Int) + 1) (by omega) (by omega)]
      simp only [grd_true, bnd_some', okS]
      have hlen : decide ((x.2.1.length : Int) = (x.2.2.1.length : Int)) = decide (x.2.1.length = x.2.2.1.length) := by by_cases h : x.2.1.length = x.2.2.1.length <;> simp [h] <;> omega
      rw [hlen]
      have fin : (sel (!areL x.2.2.1) (some ((false, ()), ())) (sel (!decide (x.2.1.length = x.2.2.1.length)) (some ((false, ()), ())) (sel (x.2.1.all fun i => inB i 1 9999) (ih ((b.1, b.2.1, b.2.2.1), b.1, (b.1.length : Int), (pre.length : Int) + 1)) (some ((false, ()), ()))))) = sel (areL x.2.2.1 && (decide (x.2.1.length = x.2.2.1.length) && x.2.1.all (fun i => inB i 1 9999))) (ih ((b.1, b.2.1, b.2.2.1), b.1, (b.1.length : Int), (pre.length : Int) + 1)) (some ((false, ()), ())) := by
        cases areL x.2.2.1 <;> cases decide (x.2.1.length = x.2.2.1.length) <;> cases x.2.1.all (fun i => inB i 1 9999) <;> rfl
      rw [fin]
      cases isC k x.1 <;> simp only [Bool.not_true, Bool.not_false, sel_true, sel_false, Bool.false_and, Bool.true_and]
      rcases List.eq_nil_or_concat pre with rfl | ⟨q, y, rfl⟩
      · simp [prevLt]
      · have e1 : IntKind.wrap .i64 (((q.concat y).length : Int) - 1) = (q.length : Int) := by rw [w64 (by omega) (by omega)]; simp
        have hx' : b.1 = q ++ y :: (x :: post) := by rw [hx]; simp
        rw [e1, inb_at hx' rfl, rdL_at hx' rfl]
        have c2 : decide (0 < ((q.concat y).length : Int)) = true := by simp
        have c3 : prevLt (q.concat y) x = ltS y.1 x.1 := by simp [prevLt]
        simp only [c2, c3, sel_true, grd_true]
        cases ltS y.1 x.1 <;> simp)
    (fun ih a _ => by simp [VF.impl_AreBooks.l4])
    (k := k) (by omega) (a := ()) trivial
  rw [show ((0 : Nat) : Int) = 0 from rfl] at h1
  rw [h1]
  have h12 : decide ((b.1.length : Int) ≤ 12) = decide (b.1.length ≤ 12) := by by_cases h : b.1.length ≤ 12 <;> simp [h] <;> omega
  simp only [areB, VF.impl_AreBooks.j0, h12, in_eq, bnd_some']
  rw [impl_AreDocuments_eq hk hd]
  simp only [bnd_some']
  cases allP (okS k) [] b.1 <;> cases decide (b.1.length ≤ 12) <;> cases inB b.2.1 0 1000000000 <;> rfl

theorem copyD_eq {k : Nat} (hk : 1048577 < k) {l : List TDoc} (hs : SmD l) : VF.impl_copyDocuments k l = some ((l, ()), ()) := by
  obtain ⟨hl, hss⟩ := hs
  unfold VF.impl_copyDocuments
  rw [join_eq]
  have := iter_run (s := VF.impl_copyDocuments.l1 VF.impl_copyDocuments.j0) (st := fun (a : List TDoc) (i : Nat) => (a, l, (l.length : Int), (i : Int))) l (fun post a => some ((a ++ post, ()), ())) (fun pre a => a.length = pre.length)
    (fun ih a pre x post e h hI => by
      have hl2 : pre.length + (post.length + 1) = l.length := by rw [e]; simp
      have hx := (hss x (by rw [e]; simp)).1
      unfold VF.impl_copyDocuments.l1
      have c1 : decide ((pre.length : Int) < (l.length : Int)) = true := by simp; omega
      simp only [c1, sel_true, List.nil_append]
      rw [inb_at e rfl, rdL_at e rfl, w64 (by omega) (by omega), fits_of (by decide) (by omega), fits_of (by decide) (by omega)]
      simp only [grd_true]
      have := hI (a ++ [x]) (by simp [h])
      simpa using this)
    (fun ih a h => by simp [VF.impl_copyDocuments.l1, VF.impl_copyDocuments.j0])
    (k := k) (by omega) (a := []) rfl
  exact this

theorem copyB_eq {k : Nat} (hk : 1048577 < k) {b : TBooks} (hs : SmB b) : VF.impl_copyBooks k b = some ((b, ()), ()) := by
  obtain ⟨⟨hl, hss⟩, hd, hdl⟩ := hs
  unfold VF.impl_copyBooks
  rw [copyD_eq hk hd]
  simp only [bnd_some', join_eq]
  have := iter_run (s := VF.impl_copyBooks.l1 k VF.impl_copyBooks.j0) (st := fun (a : List TShelf) (i : Nat) => ((([] : List TShelf), (0 : Int), ([] : List TDoc)), (a, b.2.1, b.2.2.1), b.1, (b.1.length : Int), (i : Int))) b.1 (fun post a => some (((a ++ post, b.2.1, b.2.2.1, ()), ()), ())) (fun pre a => a.length = pre.length)
    (fun ih a pre x post e h hI => by
      have hl2 : pre.length + (post.length + 1) = b.1.length := by rw [e]; simp
      have hx := hss x (by rw [e]; simp)
      unfold VF.impl_copyBooks.l1
      have c1 : decide ((pre.length : Int) < (b.1.length : Int)) = true := by simp; omega
      simp only [c1, sel_true, List.nil_append]
      rw [inb_at e rfl, rdL_at e rfl, w64 (by omega) (by omega), fits_of (by decide) (by omega), fits_of (by decide) (by omega), copyL_eq (by omega)]
      simp only [grd_true, bnd_some']
      have := hI (a ++ [x]) (by simp [h])
      simpa using this)
    (fun ih a h => by simp [VF.impl_copyBooks.l1, VF.impl_copyBooks.j0])
    (k := k) (by omega) (a := []) rfl
  exact this

def idxS (l : List TShelf) (item : List UInt8) : Int := match l.findIdx? (fun s => decide (s.1 = item)) with | some j => (j : Int) | none => -1
theorem idxS_cases (l : List TShelf) (item : List UInt8) : (idxS l item = -1 ∧ ∀ s ∈ l, s.1 ≠ item) ∨ ∃ pre s post, l = pre ++ s :: post ∧ s.1 = item ∧ idxS l item = (pre.length : Int) ∧ ∀ s ∈ pre, s.1 ≠ item := by
  unfold idxS
  cases hf : l.findIdx? (fun s => decide (s.1 = item)) with
  | none => left; exact ⟨rfl, by simpa using List.findIdx?_eq_none_iff.1 hf⟩
  | some j =>
    right
    obtain ⟨hj, hp, hq⟩ := List.findIdx?_eq_some_iff_getElem.1 hf
    refine ⟨l.take j, l[j], l.drop (j + 1), ?_, by simpa using hp, by simp; omega, ?_⟩
    · rw [← List.drop_eq_getElem_cons hj, List.take_append_drop]
    · intro o ho
      obtain ⟨i, hi, rfl⟩ := List.getElem_of_mem ho
      rw [List.getElem_take]
      have := hq i (by simp at hi; omega)
      simpa using this

theorem impl_shelf_eq {k : Nat} (hk : 1048577 < k) {b : TBooks} (hl : b.1.length ≤ 1000) (item : List UInt8) : VF.impl_shelfOf k b item = some ((idxS b.1 item, ()), ()) := by
  unfold VF.impl_shelfOf idxS
  simp only [join_eq]
  have := iter_run (A := Unit) (s := VF.impl_shelfOf.l1 item VF.impl_shelfOf.j0) (st := fun _ (i : Nat) => (b.1, (b.1.length : Int), (i : Int))) b.1
    (fun post _ => some ((match post.findIdx? (fun o => decide (o.1 = item)) with | some j => ((b.1.length - post.length + j : Nat) : Int) | none => -1, ()), ())) (fun _ _ => True)
    (fun ih a pre x post e _ hI => by
      have hl2 : pre.length + (post.length + 1) = b.1.length := by rw [e]; simp
      unfold VF.impl_shelfOf.l1
      have c1 : decide ((pre.length : Int) < (b.1.length : Int)) = true := by simp; omega
      simp only [c1, sel_true]
      rw [inb_at e rfl, rdL_at e rfl, w64 (by omega) (by omega)]
      simp only [grd_true, sel_if, decide_eq_true_eq, List.findIdx?_cons]
      by_cases hx : x.1 = item
      · simp only [hx, decide_true, if_true, List.length_cons, Nat.add_zero]
        rw [show b.1.length - (post.length + 1) = pre.length by omega]
      · simp only [hx, decide_false, if_false, Bool.false_eq_true]
        have := hI () trivial
        rw [show ((pre.length : Int) + 1) = ((pre.length + 1 : Nat) : Int) by omega, this]
        cases post.findIdx? (fun o => decide (o.1 = item)) with
        | none => rfl
        | some j =>
          simp only [Option.map_some, List.length_cons]
          rw [show b.1.length - post.length + j = b.1.length - (post.length + 1) + (j + 1) by omega])
    (fun ih a _ => by
      unfold VF.impl_shelfOf.l1
      simp only [Int.lt_irrefl, decide_false, sel_false, VF.impl_shelfOf.j0, List.findIdx?_nil])
    (k := k) (by omega) (a := ()) trivial
  have h2 : iter (VF.impl_shelfOf.l1 item VF.impl_shelfOf.j0) k (b.1, (b.1.length : Int), 0) = _ := this
  rw [h2]
  simp only [Nat.sub_self, Nat.zero_add]
end VM
