/- What the functions of MovementOf compute. -/
import Derived.Test.YtkdkpfnglogpdaaVQd
set_option linter.unusedVariables false
set_option linter.unusedSimpArgs false
namespace VM
open Go

abbrev Doc := Int × Int × List Ent × Unit
set_option synthInstance.maxSize 1000 in
instance docEq : DecidableEq Doc := inferInstanceAs (DecidableEq (Int × Int × List Ent × Unit))
abbrev kEnt : CK := .pair .str (.pair (.int .i64) .unit)
abbrev kDoc : CK := .pair (.int .i64) (.pair (.int .i64) (.pair (.sl kEnt) .unit))
def SmD (l : List Doc) : Prop := l.length ≤ 1048576 ∧ ∀ d ∈ l, SmE d.2.2.1

theorem szDocument_eq {k : Nat} (hk : 1048577 < k) (d : Doc) (hd : OkD kDoc d) (left : Int) (h0 : 0 ≤ left) (h1 : left ≤ 1048576) :
    ∃ r : Int, VF.laws_szDocument k d left = some ((r, ()), ()) ∧ (r < 0 ∨ (0 ≤ r ∧ r ≤ left ∧ SmE d.2.2.1)) := by
  obtain ⟨r, e1, e2⟩ := szEntryS_eq hk d.2.2.1 hd.2.2.1 left h0 h1
  unfold VF.laws_szDocument
  rw [e1, bnd_some']
  by_cases h : r < 0
  · exact ⟨-1, by simp [h], .inl (by omega)⟩
  · exact ⟨r, by simp [h], e2⟩

theorem szDocumentS_eq {k : Nat} (hk : 1048577 < k) (l : List Doc) (hl : OkD (.sl kDoc) l) (left : Int) (h0 : 0 ≤ left) (h1 : left ≤ 1048576) :
    ∃ r : Int, VF.laws_szDocumentS k l left = some ((r, ()), ()) ∧ (r < 0 ∨ (0 ≤ r ∧ r ≤ left ∧ SmD l)) := by
  obtain ⟨hm, hall⟩ := hl
  have hmm : maxLen = 9223372036854775807 := rfl
  rw [hmm] at hm
  unfold VF.laws_szDocumentS
  have hw : IntKind.wrap .i64 (left - (l.length : Int)) = left - (l.length : Int) := w64 (by omega) (by omega)
  rw [hw]
  by_cases h : left - (l.length : Int) < 0
  · exact ⟨-1, by simp [h], .inl (by omega)⟩
  · simp only [h, decide_false, sel_false, join_eq]
    obtain ⟨r, e1, e2⟩ := iter_sz (s := VF.laws_szDocumentS.l1 k l VF.laws_szDocumentS.j0) l (fun d => SmE d.2.2.1)
      (fun ih pre x post left hx h0 h1 => by
        have hlen : pre.length < 1099511627776 := by have := congrArg List.length hx; simp at this; omega
        have hxm : x ∈ l := by rw [hx]; simp
        obtain ⟨r, e1, e2⟩ := szDocument_eq hk x (hall x hxm) left h0 h1
        refine ⟨r, ?_, e2⟩
        rw [hx]
        obtain ⟨x1, x2, x3, ⟨⟩⟩ := x
        simp only [VF.laws_szDocumentS.l1, lt_mid, sel_true, inb_mid, grd_true, rdL_mid, e1, bnd_some', wnext hlen])
      (fun ih left => by simp [VF.laws_szDocumentS.l1, VF.laws_szDocumentS.j0])
      (k := k) (by omega) (left := left - (l.length : Int)) (by omega) (by omega)
    refine ⟨r, e1, ?_⟩
    rcases e2 with h | ⟨a, b, c⟩
    · exact .inl h
    · exact .inr ⟨a, by omega, by omega, c⟩

theorem toDocumentS_eq {k : Nat} (hk : 1048577 < k) {a : List Doc} (hs : SmD a) : VF.laws_toDocumentS k a = some ((a, ()), ()) := by
  obtain ⟨hl, hs⟩ := hs
  unfold VF.laws_toDocumentS
  rw [copy_grd (by omega) (by omega), grd_true, join_eq, Int.toNat_natCast]
  rw [iter_copy (s := VF.laws_toDocumentS.l1 k a VF.laws_toDocumentS.j0) (fun x => x) (0, 0, [], ()) VF.laws_toDocumentS.j0 a ?_ ?_ (by omega)]
  · simp [VF.laws_toDocumentS.j0]
  · intro ih pre x post q y rest hx hq
    have hpl : pre.length < 1099511627776 := by rw [hx] at hl; simp at hl; omega
    have hxs : SmE x.2.2.1 := hs x (by rw [hx]; simp)
    have i1 : inb (q ++ y :: rest) (pre.length : Int) = true := by rw [← hq]; exact inb_mid _ _ _
    have i2 : ∀ z, wrL (q ++ y :: rest) (pre.length : Int) z = q ++ z :: rest := by intro z; rw [← hq]; exact wrL_mid _ _ _ _
    rw [hx]
    obtain ⟨x1, x2, x3, ⟨⟩⟩ := x
    simp only [VF.laws_toDocumentS.l1, VF.laws_toDocument, lt_mid, sel_true, inb_mid, grd_true, i1, i2, rdL_mid, toEntryS_eq (k := k) (a := x3) (by have := hxs.1; simp only at this; omega) hxs.1, bnd_some', wnext hpl]
  · intro ih q
    simp [VF.laws_toDocumentS.l1]

theorem eqDocument_eq {k : Nat} (hk : 1048577 < k) {a b : Doc} (hs : SmE a.2.2.1) : VF.laws_eqDocument k a b = some ((decide (a = b), ()), ()) := by
  obtain ⟨a1, a2, a3, ⟨⟩⟩ := a
  obtain ⟨b1, b2, b3, ⟨⟩⟩ := b
  have := hs.1
  simp only at this
  unfold VF.laws_eqDocument
  simp only [eqEntryS_eq (k := k) (a := a3) (b := b3) (by omega) (by omega), bnd_some']
  by_cases h1 : a1 = b1 <;> by_cases h2 : a2 = b2 <;> by_cases h3 : a3 = b3 <;> simp [h1, h2, h3]

theorem eqDocumentS_eq {k : Nat} (hk : 1048577 < k) {a b : List Doc} (hs : SmD a) : VF.laws_eqDocumentS k a b = some ((decide (a = b), ()), ()) := by
  obtain ⟨hl, hs⟩ := hs
  unfold VF.laws_eqDocumentS
  by_cases h : a.length = b.length
  · have h' : decide ((a.length : Int) = (b.length : Int)) = true := by simp [h]
    simp only [h', Bool.not_true, sel_false, join_eq]
    refine iter_eq a b h (fun ih pre x post pre' y post' hx hy hp => ?_) (fun ih => by simp [VF.laws_eqDocumentS.l1, VF.laws_eqDocumentS.j0]) (by omega)
    have hpl : pre.length < 1099511627776 := by rw [hx] at hl; simp at hl; omega
    have hxs : SmE x.2.2.1 := hs x (by rw [hx]; simp)
    have i1 : inb b (pre.length : Int) = true := by rw [hy, ← hp]; exact inb_mid _ _ _
    have i2 : rdL b (pre.length : Int) (0, 0, [], ()) = y := by rw [hy, ← hp]; exact rdL_mid _ _ _ _
    rw [hx]
    have e := eqDocument_eq (k := k) hk (a := x) (b := y) hxs
    obtain ⟨x1, x2, x3, ⟨⟩⟩ := x
    obtain ⟨y1, y2, y3, ⟨⟩⟩ := y
    simp only [VF.laws_eqDocumentS.l1, lt_mid, sel_true, inb_mid, grd_true, i1, i2, rdL_mid, e, bnd_some', wnext hpl]
    cases decide ((x1, x2, x3, ()) = ((y1, y2, y3, ()) : Doc)) <;> rfl
  · have h' : decide ((a.length : Int) = (b.length : Int)) = false := by simp; omega
    have h2 : a ≠ b := fun e => h (by rw [e])
    simp [h', h2]

/-! ### entries and documents -/
def okN (k : Nat) (e : Ent) : Bool := isC k e.1 && inB e.2.1 (-1000000000) 1000000000 && !decide (e.2.1 = 0)
def areE (k : Nat) (l : List Ent) : Bool := l.all (okN k) && (decide (sumF l = 0) && inB (l.length : Int) 2 12)

theorem spec_AreEntries_eq {k : Nat} (hk : 1048577 < k) {l : List Ent} (hl : SmE l) : VF.spec_AreEntries k l = some ((areE k l, ()), ()) := by
  obtain ⟨hl1, hl2⟩ := hl
  unfold VF.spec_AreEntries
  rw [join_eq]
  have h1 := iter_allf (s := VF.spec_AreEntries.l2 k l (VF.spec_AreEntries.j0 k l)) (fun (a : Int) i => (a, (i : Int))) l (fun _ x => okN k x) (fun s e => IntKind.wrap .i64 (s + e.2.1)) (some ((false, ()), ())) (VF.spec_AreEntries.j0 k l) (fun _ _ => True)
    (fun _ _ _ _ _ _ _ => trivial)
    (fun ih a pre x post hx _ => by
      have hpl : pre.length < 1099511627776 := by rw [hx] at hl1; simp at hl1; omega
      have hxm : x ∈ l := by rw [hx]; simp
      have hxl := hl2 x hxm
      rw [hx]
      simp only [VF.spec_AreEntries.l2, VF.spec_AreEntries.j1, lt_mid, sel_true, inb_mid, grd_true, rdL_mid, join_eq, isC_eq (k := k) (s := x.1) (by omega) (by omega), l1In_eq, bnd_some', wnext hpl, okN]
      cases isC k x.1 <;> cases decide (x.2.1 = 0) <;> cases inB x.2.1 (-1000000000) 1000000000 <;> rfl)
    (fun ih a _ => by simp [VF.spec_AreEntries.l2])
    (k := k) (by omega) (a := 0) trivial
  rw [show ((0 : Nat) : Int) = 0 from rfl] at h1
  rw [h1, allP_all]
  show sel _ (VF.spec_AreEntries.j0 k l (sumF l)) _ = _
  simp only [areE, VF.spec_AreEntries.j0, l1In_eq, bnd_some']
  cases List.all l (okN k) <;> cases decide (sumF l = 0) <;> rfl

theorem impl_AreEntries_eq {k : Nat} (hk : 1048577 < k) {l : List Ent} (hl : SmE l) : VF.impl_AreEntries k l = some ((areE k l, ()), ()) := by
  obtain ⟨hl1, hl2⟩ := hl
  unfold VF.impl_AreEntries
  rw [join_eq]
  have h1 := iter_allf (s := VF.impl_AreEntries.l1 k (VF.impl_AreEntries.j0 k l)) (fun (a : Int) i => (a, l, (l.length : Int), (i : Int))) l (fun _ x => okN k x) (fun s e => IntKind.wrap .i64 (s + e.2.1)) (some ((false, ()), ())) (VF.impl_AreEntries.j0 k l) (fun _ _ => True)
    (fun _ _ _ _ _ _ _ => trivial)
    (fun ih a pre x post hx _ => by
      have hpl : pre.length < 1099511627776 := by rw [hx] at hl1; simp at hl1; omega
      have hxm : x ∈ l := by rw [hx]; simp
      have hxl := hl2 x hxm
      rw [hx]
      simp only [VF.impl_AreEntries.l1, lt_mid, sel_true, inb_mid, grd_true, rdL_mid, join_eq, isCode_same, isC_eq (k := k) (s := x.1) (by omega) (by omega), in_eq, bnd_some', wnext hpl, okN]
      cases isC k x.1 <;> cases decide (x.2.1 = 0) <;> cases inB x.2.1 (-1000000000) 1000000000 <;> rfl)
    (fun ih a _ => by simp [VF.impl_AreEntries.l1])
    (k := k) (by omega) (a := 0) trivial
  rw [show ((0 : Nat) : Int) = 0 from rfl] at h1
  rw [h1, allP_all]
  show sel _ (VF.impl_AreEntries.j0 k l (sumF l)) _ = _
  simp only [areE, VF.impl_AreEntries.j0, in_eq, bnd_some']
  cases List.all l (okN k) <;> cases decide (sumF l = 0) <;> cases inB (l.length : Int) 2 12 <;> rfl

theorem areE_len {k : Nat} {l : List Ent} (h : areE k l = true) : l.length ≤ 12 := by
  simp only [areE, inB, Bool.and_eq_true, decide_eq_true_eq] at h
  omega
theorem areE_ok {k : Nat} {l : List Ent} (h : areE k l = true) : AllI l := by
  simp only [areE, Bool.and_eq_true, List.all_eq_true] at h
  intro e he
  have hq := h.1 e he
  simp only [okN, inB, Bool.and_eq_true, decide_eq_true_eq] at hq
  unfold EntOk I64
  omega

def okDoc (k : Nat) (pre : List Doc) (d : Doc) : Bool := decide (d.1 = (pre.length : Int) + 1) && (inB d.2.1 0 999 && areE k d.2.2.1)
def areDoc (k : Nat) (l : List Doc) : Bool := allP (okDoc k) [] l && decide (l.length ≤ 120)

theorem spec_AreDocuments_eq {k : Nat} (hk : 1048577 < k) {l : List Doc} (hs : SmD l) : VF.spec_AreDocuments k l = some ((areDoc k l, ()), ()) := by
  obtain ⟨hl, hs⟩ := hs
  unfold VF.spec_AreDocuments
  rw [join_eq]
  have h1 := iter_allf (s := VF.spec_AreDocuments.l1 k l (VF.spec_AreDocuments.j0 l)) (fun (_ : Unit) i => (i : Int)) l (okDoc k) (fun s _ => s) (some ((false, ()), ())) (VF.spec_AreDocuments.j0 l) (fun _ _ => True)
    (fun _ _ _ _ _ _ _ => trivial)
    (fun ih a pre x post hx _ => by
      have hpl : pre.length < 1099511627776 := by rw [hx] at hl; simp at hl; omega
      have hxs := hs x (by rw [hx]; simp)
      have hc : (((pre.length + 1 : Nat)) : Int) = (pre.length : Int) + 1 := rfl
      rw [hx]
      simp only [VF.spec_AreDocuments.l1, lt_mid, sel_true, inb_mid, grd_true, rdL_mid, spec_AreEntries_eq hk hxs, l1In_eq, bnd_some', wnext hpl, okDoc, hc]
      cases decide (x.1 = (pre.length : Int) + 1) <;> cases inB x.2.1 0 999 <;> cases areE k x.2.2.1 <;> rfl)
    (fun ih a _ => by simp [VF.spec_AreDocuments.l1])
    (k := k) (by omega) (a := ()) trivial
  rw [show ((0 : Nat) : Int) = 0 from rfl] at h1
  rw [h1]
  have h12 : decide ((l.length : Int) ≤ 120) = decide (l.length ≤ 120) := by by_cases h : l.length ≤ 120 <;> simp [h] <;> omega
  simp only [areDoc, VF.spec_AreDocuments.j0, h12]
  cases allP (okDoc k) [] l <;> rfl

theorem impl_AreDocuments_eq {k : Nat} (hk : 1048577 < k) {l : List Doc} (hs : SmD l) : VF.impl_AreDocuments k l = some ((areDoc k l, ()), ()) := by
  obtain ⟨hl, hs⟩ := hs
  unfold VF.impl_AreDocuments
  rw [join_eq]
  have h1 := iter_allf (s := VF.impl_AreDocuments.l1 k (VF.impl_AreDocuments.j0 l)) (fun (_ : Unit) i => (l, (l.length : Int), (i : Int))) l (okDoc k) (fun s _ => s) (some ((false, ()), ())) (VF.impl_AreDocuments.j0 l) (fun _ _ => True)
    (fun _ _ _ _ _ _ _ => trivial)
    (fun ih a pre x post hx _ => by
      have hpl : pre.length < 1099511627776 := by rw [hx] at hl; simp at hl; omega
      have hxs := hs x (by rw [hx]; simp)
      have hc : (((pre.length + 1 : Nat)) : Int) = (pre.length : Int) + 1 := rfl
      rw [hx]
      simp only [VF.impl_AreDocuments.l1, lt_mid, sel_true, inb_mid, grd_true, rdL_mid, impl_AreEntries_eq hk hxs, in_eq, bnd_some', wnext hpl, okDoc, hc]
      cases decide (x.1 = (pre.length : Int) + 1) <;> cases inB x.2.1 0 999 <;> cases areE k x.2.2.1 <;> rfl)
    (fun ih a _ => by simp [VF.impl_AreDocuments.l1])
    (k := k) (by omega) (a := ()) trivial
  rw [show ((0 : Nat) : Int) = 0 from rfl] at h1
  rw [h1]
  have h12 : decide ((l.length : Int) ≤ 120) = decide (l.length ≤ 120) := by by_cases h : l.length ≤ 120 <;> simp [h] <;> omega
  simp only [areDoc, VF.impl_AreDocuments.j0, h12]
  cases allP (okDoc k) [] l <;> rfl

theorem areDoc_len {k : Nat} {l : List Doc} (h : areDoc k l = true) : l.length ≤ 120 := by
  simp only [areDoc, Bool.and_eq_true, decide_eq_true_eq] at h
  exact h.2
theorem areDoc_E {k : Nat} {l : List Doc} (h : areDoc k l = true) : ∀ d ∈ l, areE k d.2.2.1 = true := by
  simp only [areDoc, Bool.and_eq_true, decide_eq_true_eq] at h
  intro d hd
  obtain ⟨q, hq⟩ := allP_mem h.1 d hd
  simp only [okDoc, Bool.and_eq_true] at hq
  exact hq.2.2

/-! ### what moves -/
def inDays (a b : Int) (d : Doc) : List Ent := if a ≤ d.2.1 ∧ d.2.1 ≤ b then d.2.2.1 else []
def moveOf (k : Nat) (l : List Doc) (a b : Int) : List Ent := if areDoc k l = true then adds (l.flatMap (inDays a b)) else []

theorem inDays_len {k : Nat} {a b : Int} {d : Doc} (h : areE k d.2.2.1 = true) : (inDays a b d).length ≤ 12 := by
  unfold inDays
  split
  · exact areE_len h
  · simp
theorem days_ok {k : Nat} {a b : Int} : ∀ {l : List Doc}, (∀ d ∈ l, areE k d.2.2.1 = true) → (l.flatMap (inDays a b)).length ≤ 12 * l.length ∧ AllI (l.flatMap (inDays a b))
  | [], _ => ⟨by simp, by simp [AllI]⟩
  | d :: l, h => by
    obtain ⟨h1, h2⟩ := days_ok (a := a) (b := b) (l := l) fun x hx => h x (by simp [hx])
    have hd := h d (by simp)
    have := inDays_len (a := a) (b := b) hd
    refine ⟨by rw [List.flatMap_cons, List.length_append, List.length_cons]; omega, fun e he => ?_⟩
    rw [List.flatMap_cons] at he
    rcases List.mem_append.1 he with he | he
    · refine areE_ok hd e ?_
      unfold inDays at he
      split at he
      · exact he
      · simp at he
    · exact h2 e he

theorem impl_move_eq {k : Nat} (hk : 1048577 < k) {l : List Doc} (hs : SmD l) {a b : Int} : VF.impl_movement k l a b = some ((moveOf k l a b, ()), ()) := by
  unfold VF.impl_movement moveOf
  rw [impl_AreDocuments_eq hk hs, bnd_some']
  cases ha : areDoc k l with
  | false => simp
  | true =>
    have h120 := areDoc_len ha
    have hE := areDoc_E ha
    simp only [Bool.not_true, sel_false, join_eq, if_true]
    have f1 : ∀ m, m ≤ 1048576 + 2 → fits m 24 = true := fun m hm => fits_of (by omega) (by omega)
    have h1 := iter_fold (s := VF.impl_movement.l1 a b (VF.impl_movement.j0 k)) (fun (r : List Ent) i => (r, l, (l.length : Int), (i : Int))) l (fun r x => r ++ inDays a b x) (VF.impl_movement.j0 k)
      (fun pre r => r.length ≤ 12 * pre.length)
      (fun r pre x post hx hi => by
        have := inDays_len (a := a) (b := b) (hE x (by rw [hx]; simp))
        simp only [List.length_append, List.length_cons, List.length_nil]
        omega)
      (fun ih r pre x post hx hi => by
        have hpl : pre.length ≤ 120 := by rw [hx] at h120; simp at h120; omega
        have hxE := areE_len (hE x (by rw [hx]; simp))
        rw [hx]
        simp only [VF.impl_movement.l1, lt_mid, sel_true, inb_mid, grd_true, rdL_mid, wnext (show pre.length < 1099511627776 by omega), inDays]
        rw [f1 _ (by omega), grd_true]
        by_cases h1 : a ≤ x.2.1 <;> by_cases h2 : x.2.1 ≤ b <;> simp [h1, h2])
      (fun ih r hi => by simp [VF.impl_movement.l1])
      (k := k) (by omega) (a := []) (by simp)
    rw [show ((0 : Nat) : Int) = 0 from rfl] at h1
    rw [h1]
    have hfold : ∀ (l : List Doc) (r : List Ent), l.foldl (fun r x => r ++ inDays a b x) r = r ++ l.flatMap (inDays a b) := by
      intro l
      induction l with
      | nil => simp
      | cons d l ih => intro r; simp [ih]
    obtain ⟨g1, g2⟩ := days_ok (a := a) (b := b) hE
    rw [hfold, List.nil_append]
    simp only [VF.impl_movement.j0]
    rw [totals_eq (by omega) (by omega), bnd_some', tots_eq _ g2]

theorem spec_move_eq {k : Nat} (hk : 1048577 < k) {l : List Doc} (hs : SmD l) {a b : Int} : VF.spec_MovementOf k l a b = some ((moveOf k l a b, ()), ()) := by
  unfold VF.spec_MovementOf moveOf
  rw [join_eq]
  cases ha : areDoc k l with
  | false =>
    simp only [Bool.false_eq_true, if_false]
    have hd := spec_AreDocuments_eq hk hs
    obtain ⟨k', rfl⟩ : ∃ k', k = k' + 1 := ⟨k - 1, by omega⟩
    rw [iter_succ]
    simp only [VF.spec_MovementOf.l4]
    rw [hd, bnd_some', ha]
    cases decide (0 < (l.length : Int)) <;> rfl
  | true =>
    have h120 := areDoc_len ha
    have hE := areDoc_E ha
    simp only [if_true]
    have hd := spec_AreDocuments_eq hk hs
    have h1 := iter_fold (s := VF.spec_MovementOf.l4 k l a b VF.spec_MovementOf.j0) (fun (r : List Ent) i => (r, (i : Int))) l (fun r x => (inDays a b x).foldl (fun r e => addE r e.1 e.2.1) r) VF.spec_MovementOf.j0
      (fun pre r => r.length ≤ 12 * pre.length)
      (fun r pre x post hx hi => by
        have := inDays_len (a := a) (b := b) (hE x (by rw [hx]; simp))
        have := fold_len (inDays a b x) r
        simp only [List.length_append, List.length_cons, List.length_nil]
        omega)
      (fun ih r pre x post hx hi => by
        have hpl : pre.length ≤ 120 := by rw [hx] at h120; simp at h120; omega
        have hx12 := areE_len (hE x (by rw [hx]; simp))
        have g1 : decide ((pre.length : Int) < (l.length : Int)) = true := by rw [hx]; exact lt_mid _ _ _
        have g2 : inb l (pre.length : Int) = true := by rw [hx]; exact inb_mid _ _ _
        have g3 : rdL l (pre.length : Int) (0, 0, [], ()) = x := by rw [hx]; exact rdL_mid _ _ _ _
        simp only [VF.spec_MovementOf.l4, g1, sel_true, hd, bnd_some', ha, join_eq]
        by_cases hin : a ≤ x.2.1 ∧ x.2.1 ≤ b
        · have h2 := iter_fold (s := VF.spec_MovementOf.l3 k l a b (VF.spec_MovementOf.j1 ih)) (fun (r : List Ent) i => (r, (pre.length : Int), (i : Int))) x.2.2.1 (fun r e => addE r e.1 e.2.1) (fun r => VF.spec_MovementOf.j1 ih (r, (pre.length : Int)))
            (fun q r => r.length ≤ 2000 + q.length)
            (fun r q y post' hy hq => by
              have := addE_length r y.1 y.2.1
              simp only [List.length_append, List.length_cons, List.length_nil]
              omega)
            (fun ih2 r q y post' hy hq => by
              have hql : q.length ≤ 12 := by rw [hy] at hx12; simp at hx12; omega
              have k1 : decide ((q.length : Int) < (x.2.2.1.length : Int)) = true := by rw [hy]; exact lt_mid _ _ _
              have k2 : inb x.2.2.1 (q.length : Int) = true := by rw [hy]; exact inb_mid _ _ _
              have k3 : rdL x.2.2.1 (q.length : Int) ([], 0, ()) = y := by rw [hy]; exact rdL_mid _ _ _ _
              simp only [VF.spec_MovementOf.l3, VF.spec_MovementOf.j2, join_eq, g2, g3, k1, k2, k3, sel_true, grd_true, hin.1, hin.2, decide_true, l35Add_eq (k := k) (l := r) (a := y.1) (n := y.2.1) (by omega) (by omega), bnd_some', wnext (show q.length < 1099511627776 by omega)])
            (fun ih2 r hq => by
              simp only [VF.spec_MovementOf.l3, join_eq, g2, g3, grd_true, Int.lt_irrefl, decide_false, sel_false])
            (k := k) (by omega) (a := r) (by simp; omega)
          rw [show ((0 : Nat) : Int) = 0 from rfl] at h2
          rw [h2]
          simp only [VF.spec_MovementOf.j1, wnext (show pre.length < 1099511627776 by omega), inDays, hin, and_self, if_true]
        · obtain ⟨k', rfl⟩ : ∃ k', k = k' + 1 := ⟨k - 1, by omega⟩
          rw [iter_succ]
          simp only [VF.spec_MovementOf.l3, join_eq, g2, g3, grd_true, VF.spec_MovementOf.j1, wnext (show pre.length < 1099511627776 by omega), inDays, hin, if_false, List.foldl_nil]
          cases decide ((0 : Int) < (x.2.2.1.length : Int)) with
          | false => rfl
          | true =>
            by_cases h1 : a ≤ x.2.1
            · have h2 : ¬ x.2.1 ≤ b := fun h => hin ⟨h1, h⟩
              simp [h1, h2]
            · simp [h1])
      (fun ih r hi => by simp [VF.spec_MovementOf.l4])
      (k := k) (by omega) (a := []) (by simp)
    rw [show ((0 : Nat) : Int) = 0 from rfl] at h1
    rw [h1]
    have hf : ∀ (l : List Doc) (r : List Ent), l.foldl (fun r x => (inDays a b x).foldl (fun r e => addE r e.1 e.2.1) r) r = (l.flatMap (inDays a b)).foldl (fun r e => addE r e.1 e.2.1) r := by
      intro l
      induction l with
      | nil => intro r; rfl
      | cons d l ih => intro r; rw [List.foldl_cons, ih, List.flatMap_cons, List.foldl_append]
    rw [hf]
    rfl

theorem moveOf_len {k : Nat} {l : List Doc} {a b : Int} : (moveOf k l a b).length ≤ 1440 := by
  unfold moveOf
  split
  · next ha =>
    have h1 := areDoc_len ha
    obtain ⟨g1, _⟩ := days_ok (a := a) (b := b) (areDoc_E ha)
    have := adds_length (l.flatMap (inDays a b))
    omega
  · simp

theorem markDocumentS_eq {k : Nat} (hk : 1048577 < k) {l : List Doc} (hs : SmD l) : ∃ (n : Nat) (q : List Doc), VF.laws_markDocumentS k l 1 = some ((1 + (n : Int), ()), (q, ())) := by
  obtain ⟨hl, hs⟩ := hs
  unfold VF.laws_markDocumentS
  rw [join_eq]
  have key : ∀ (post pre : List Doc) (m : Nat) (j : Nat), post.length < j → (∀ x ∈ post, SmE x.2.2.1) → pre.length + post.length ≤ 1048576 → m ≤ 2097154 * pre.length →
      ∃ (n : Nat) (q : List Doc), iter (VF.laws_markDocumentS.l3 k VF.laws_markDocumentS.j0) j (pre ++ post, 1 + (m : Int), (pre.length : Int)) = some ((1 + (n : Int), ()), (q, ())) := by
    intro post
    induction post with
    | nil =>
      intro pre m j hj hs h2 h3
      cases j with
      | zero => omega
      | succ j => rw [iter_succ]; exact ⟨m, pre, by simp [VF.laws_markDocumentS.l3, VF.laws_markDocumentS.j0]⟩
    | cons e post ih =>
      intro pre m j hj hs h2 h3
      simp only [List.length_cons] at h2 hj
      cases j with
      | zero => omega
      | succ j =>
        rw [iter_succ]
        have hes := hs e (by simp)
        have hel := hes.1
        have w1 : IntKind.wrap .i64 (1 + (m : Int) + 1) = 1 + (m : Int) + 1 := w64 (by omega) (by omega)
        have w2 : IntKind.wrap .i64 (1 + (m : Int) + 1 + 1) = 1 + (m : Int) + 1 + 1 := w64 (by omega) (by omega)
        have hmk := markEntryS_eq (k := k) (by omega) (l := e.2.2.1) (m := 1 + (m : Int) + 1 + 1) (by omega) (by omega) ⟨by omega, by omega⟩
        simp only [VF.laws_markDocumentS.l3, VF.laws_markDocumentS.j2, VF.laws_markDocumentS.j1, join_eq, lt_mid, sel_true, inb_mid, grd_true, rdL_mid, wrL_mid, w1, w2, hmk, bnd_some', wnext (show pre.length < 1099511627776 by omega)]
        obtain ⟨n, q, hq⟩ := ih (pre ++ [(1 + (m : Int), 1 + (m : Int) + 1, marksE e.2.2.1 (1 + (m : Int) + 1 + 1), e.2.2.2)]) (m + 2 + 2 * e.2.2.1.length) j (by omega) (fun x hx => hs x (by simp [hx])) (by simp; omega) (by simp; omega)
        simp only [List.append_assoc, List.singleton_append, List.length_append, List.length_cons, List.length_nil, Nat.zero_add] at hq
        refine ⟨n, q, ?_⟩
        rw [← hq]
        congr 3
        push_cast
        omega
  have := key l [] 0 k (by omega) hs (by simpa using hl) (by simp)
  simpa using this

theorem move_true (l : List Doc) (a b : Int) (hl : OkD (.sl kDoc) l) : VF.laws_FnExactMovementOf 1048600 l a b = some ((true, ()), ()) := by
  unfold VF.laws_FnExactMovementOf
  obtain ⟨r, e1, e2⟩ := szDocumentS_eq (k := 1048600) (by omega) l hl 1048576 (by omega) (by omega)
  rw [e1, bnd_some']
  by_cases h : r < 0
  · simp [h]
  · rcases e2 with h' | ⟨_, _, hs⟩
    · exact absurd h' h
    · have hg := moveOf_len (k := 1048600) (l := l) (a := a) (b := b)
      have r1 := toDocumentS_eq (k := 1048600) (by omega) hs
      have r2 := spec_move_eq (k := 1048600) (by omega) hs (a := a) (b := b)
      have r3 : VF.impl_MovementOf 1048600 l a b = some ((moveOf 1048600 l a b, ()), ()) := by unfold VF.impl_MovementOf; rw [impl_move_eq (by omega) hs, bnd_some']
      have r4 := eqEntryS_eq (k := 1048600) (a := moveOf 1048600 l a b) (b := moveOf 1048600 l a b) (by omega) (by omega)
      have r5 := eqDocumentS_eq (k := 1048600) (by omega) (a := l) (b := l) hs
      obtain ⟨n, q, r6⟩ := markDocumentS_eq (k := 1048600) (by omega) hs
      have r7 := markEntryS_eq (k := 1048600) (by omega) (l := moveOf 1048600 l a b) (m := 1) (by omega) (by omega) (by omega)
      have r8 := heldEntryS_eq (k := 1048600) (by omega) (l := moveOf 1048600 l a b) (m := 1) (by omega) (by omega) (by omega)
      have d1 : decide ((1 + (n : Int)) < 0) = false := by simp; omega
      have d2 : decide ((1 + 2 * ((moveOf 1048600 l a b).length : Int)) < 0) = false := by simp; omega
      simp only [h, decide_false, sel_false, r1, r2, r3, r4, r5, r6, r7, r8, bnd_some', decide_true, Bool.not_true, join_eq, d1, d2, VF.laws_FnExactMovementOf.j0]
end VM
