/- FnExactBooksOf: marks. -/
import Derived.Test.YtkdkpfnglogpdaaWXa
set_option linter.unusedVariables false
set_option linter.unusedSimpArgs false
namespace VM
open Go

/-- How far the marks of books can go. -/
theorem szS_bd : ∀ {l : List TShelf}, (∀ s ∈ l, s.2.1.length ≤ 1000 ∧ s.2.2.1.length ≤ 1000) → 0 ≤ szS l ∧ szS l ≤ 4001 * l.length := by
  intro l
  induction l with
  | nil => intro _; simp [szS]
  | cons s l ih =>
    intro h
    have h1 := h s (by simp)
    have h2 := ih (fun x hx => h x (by simp [hx]))
    simp only [szS, List.length_cons]
    omega
theorem szD_bd : ∀ {l : List TDoc}, (∀ d ∈ l, SmE d.2.2.1) → 0 ≤ szD l ∧ szD l ≤ 2097154 * l.length := by
  intro l
  induction l with
  | nil => intro _; simp [szD]
  | cons s l ih =>
    intro h
    have h1 := (h s (by simp)).1
    have h2 := ih (fun x hx => h x (by simp [hx]))
    simp only [szD, List.length_cons]
    omega

theorem markShelfS_eq {k : Nat} (hk : 1048577 < k) {l : List TShelf} (hs : SmS l) {m : Int} (hm : 0 ≤ m ∧ m ≤ 1000000000000) : VF.laws_markShelfS k l m = some ((m + szS l, ()), (mkS l m, ())) := by
  obtain ⟨hl, hss⟩ := hs
  unfold VF.laws_markShelfS
  rw [join_eq]
  have key : ∀ (post pre : List TShelf) (m : Int) (j : Nat), post.length < j → 0 ≤ m → m + 4001 * post.length ≤ 2000000000000 → pre.length + post.length ≤ 1000 → (∀ s ∈ post, s.2.1.length ≤ 1000 ∧ s.2.2.1.length ≤ 1000) →
      iter (VF.laws_markShelfS.l2 k VF.laws_markShelfS.j0) j (pre ++ post, m, (pre.length : Int)) = some ((m + szS post, ()), (pre ++ mkS post m, ())) := by
    intro post
    induction post with
    | nil =>
      intro pre m j hj h0 h1 h2 h3
      obtain ⟨j, rfl⟩ : ∃ p, j = p + 1 := ⟨j - 1, by omega⟩
      rw [iter_succ]; simp [VF.laws_markShelfS.l2, VF.laws_markShelfS.j0, mkS, szS]
    | cons x post ih =>
      intro pre m j hj h0 h1 h2 h3
      obtain ⟨j, rfl⟩ : ∃ p, j = p + 1 := ⟨j - 1, by omega⟩
      simp only [List.length_cons] at hj h1 h2
      have hx := h3 x (by simp)
      have w1 : IntKind.wrap .i64 (m + 1) = m + 1 := w64 (by omega) (by omega)
      have hI := ih (pre ++ [(mtx m, mkI x.2.1 (m + 1), mkL x.2.2.1 (m + 1 + x.2.1.length), ())]) (m + 1 + x.2.1.length + 3 * x.2.2.1.length) j (by omega) (by omega) (by omega) (by simp; omega) (fun s hs => h3 s (by simp [hs]))
      rw [iter_succ]
      generalize iter (VF.laws_markShelfS.l2 k VF.laws_markShelfS.j0) j = I at *
      simp only [VF.laws_markShelfS.l2, VF.laws_markShelfS.j1, join_eq, lt_mid, sel_true, inb_mid, grd_true, rdL_mid, wrL_mid, w1, wnext (show pre.length < 1099511627776 by omega)]
      rw [markText_eq (by omega) (by omega)]
      simp only [bnd_some', inb_mid, grd_true, rdL_mid, wrL_mid]
      rw [markIntS_eq (by omega) (by omega) ⟨by omega, by omega⟩]
      simp only [bnd_some', inb_mid, grd_true, rdL_mid, wrL_mid]
      rw [markLayerS_eq (by omega) (by omega) ⟨by omega, by omega⟩]
      simp only [bnd_some', inb_mid, grd_true, rdL_mid, wrL_mid]
      simp only [List.append_assoc, List.singleton_append, List.length_append, List.length_cons, List.length_nil, Nat.zero_add] at hI
      rw [hI]
      simp only [mkS, szS]
      congr 3
      omega
  exact key l [] m k (by omega) hm.1 (by omega) (by simpa using hl) (fun s hs => (hss s hs).2)

theorem markDocS_eq {k : Nat} (hk : 1048577 < k) {l : List TDoc} (hs : SmD l) {m : Int} (hm : 0 ≤ m ∧ m ≤ 1000000000000) : VF.laws_markDocumentS k l m = some ((m + szD l, ()), (mkD l m, ())) := by
  obtain ⟨hl, hss⟩ := hs
  unfold VF.laws_markDocumentS
  rw [join_eq]
  have key : ∀ (post pre : List TDoc) (m : Int) (j : Nat), post.length < j → 0 ≤ m → m + 2097154 * post.length ≤ 4000000000000 → pre.length + post.length ≤ 1048576 → (∀ d ∈ post, SmE d.2.2.1) →
      iter (VF.laws_markDocumentS.l3 k VF.laws_markDocumentS.j0) j (pre ++ post, m, (pre.length : Int)) = some ((m + szD post, ()), (pre ++ mkD post m, ())) := by
    intro post
    induction post with
    | nil =>
      intro pre m j hj h0 h1 h2 h3
      obtain ⟨j, rfl⟩ : ∃ p, j = p + 1 := ⟨j - 1, by omega⟩
      rw [iter_succ]; simp [VF.laws_markDocumentS.l3, VF.laws_markDocumentS.j0, mkD, szD]
    | cons x post ih =>
      intro pre m j hj h0 h1 h2 h3
      obtain ⟨j, rfl⟩ : ∃ p, j = p + 1 := ⟨j - 1, by omega⟩
      simp only [List.length_cons] at hj h1 h2
      have hx := (h3 x (by simp)).1
      have w1 : IntKind.wrap .i64 (m + 1) = m + 1 := w64 (by omega) (by omega)
      have w2 : IntKind.wrap .i64 (m + 1 + 1) = m + 1 + 1 := w64 (by omega) (by omega)
      have hI := ih (pre ++ [(m, m + 1, marksE x.2.2.1 (m + 1 + 1), ())]) (m + 1 + 1 + 2 * x.2.2.1.length) j (by omega) (by omega) (by omega) (by simp; omega) (fun s hs => h3 s (by simp [hs]))
      rw [iter_succ]
      generalize iter (VF.laws_markDocumentS.l3 k VF.laws_markDocumentS.j0) j = I at *
      have hmk := markEntryS_eq (k := k) (by omega) (l := x.2.2.1) (m := m + 1 + 1) (by omega) (by omega) ⟨by omega, by omega⟩
      simp only [VF.laws_markDocumentS.l3, VF.laws_markDocumentS.j2, VF.laws_markDocumentS.j1, join_eq, lt_mid, sel_true, inb_mid, grd_true, rdL_mid, wrL_mid, w1, w2, hmk, bnd_some', wnext (show pre.length < 1099511627776 by omega)]
      simp only [List.append_assoc, List.singleton_append, List.length_append, List.length_cons, List.length_nil, Nat.zero_add] at hI
      rw [hI]
      simp only [mkD, szD]
      congr 3
      omega
  exact key l [] m k (by omega) hm.1 (by omega) (by simpa using hl) hss

theorem heldShelfS_eq {k : Nat} (hk : 1048577 < k) {l : List TShelf} (hs : SmS l) {m : Int} (hm : 0 ≤ m ∧ m ≤ 1000000000000) : VF.laws_heldShelfS k (mkS l m) m = some ((m + szS l, ()), ()) := by
  obtain ⟨hl, hss⟩ := hs
  unfold VF.laws_heldShelfS
  rw [join_eq]
  generalize hX : mkS l m = X
  have key : ∀ (post pre : List TShelf) (m : Int) (j : Nat), X = pre ++ mkS post m → post.length < j → 0 ≤ m → m + 4001 * post.length ≤ 2000000000000 → pre.length + post.length ≤ 1000 → (∀ s ∈ post, s.2.1.length ≤ 1000 ∧ s.2.2.1.length ≤ 1000) →
      iter (VF.laws_heldShelfS.l1 k X VF.laws_heldShelfS.j0) j (m, (pre.length : Int)) = some ((m + szS post, ()), ()) := by
    intro post
    induction post with
    | nil =>
      intro pre m j hx hj h0 h1 h2 h3
      obtain ⟨j, rfl⟩ : ∃ p, j = p + 1 := ⟨j - 1, by omega⟩
      rw [iter_succ, hx]; simp [VF.laws_heldShelfS.l1, VF.laws_heldShelfS.j0, mkS, szS]
    | cons x post ih =>
      intro pre m j hx hj h0 h1 h2 h3
      obtain ⟨j, rfl⟩ : ∃ p, j = p + 1 := ⟨j - 1, by omega⟩
      simp only [List.length_cons] at hj h1 h2
      have hxx := h3 x (by simp)
      have hI := ih (pre ++ [(mtx m, mkI x.2.1 (m + 1), mkL x.2.2.1 (m + 1 + x.2.1.length), ())]) (m + 1 + x.2.1.length + 3 * x.2.2.1.length) j (by rw [hx]; simp [mkS]) (by omega) (by omega) (by omega) (by simp; omega) (fun s hs => h3 s (by simp [hs]))
      rw [iter_succ]
      generalize iter (VF.laws_heldShelfS.l1 k X VF.laws_heldShelfS.j0) j = I at *
      have hx' : X = pre ++ (mtx m, mkI x.2.1 (m + 1), mkL x.2.2.1 (m + 1 + x.2.1.length), ()) :: mkS post (m + 1 + x.2.1.length + 3 * x.2.2.1.length) := hx
      have hxl : X.length = pre.length + (post.length + 1) := by rw [hx']; simp [mkS_len]
      have w1 : IntKind.wrap .i64 (m + 1) = m + 1 := w64 (by omega) (by omega)
      unfold VF.laws_heldShelfS.l1
      have c1 : decide ((pre.length : Int) < (X.length : Int)) = true := by simp; omega
      have c2 : decide (m + 1 + (x.2.1.length : Int) < 0) = false := by simp; omega
      have c3 : decide (m + 1 + (x.2.1.length : Int) + 3 * (x.2.2.1.length : Int) < 0) = false := by simp; omega
      simp only [c1, sel_true]
      rw [inb_at hx' rfl, rdL_at hx' rfl, w64 (x := (pre.length : Int) + 1) (by omega) (by omega), markText_eq (by omega) (by omega)]
      simp only [grd_true, bnd_some', w1, decide_true, Bool.not_true, sel_false]
      rw [heldIntS_eq (by omega) (by omega) ⟨by omega, by omega⟩]
      simp only [grd_true, bnd_some', c2, sel_false]
      rw [heldLayerS_eq (by omega) (by omega) ⟨by omega, by omega⟩]
      simp only [grd_true, bnd_some', c3, sel_false]
      rw [show ((pre.length : Int) + 1) = ((pre ++ [(mtx m, mkI x.2.1 (m + 1), mkL x.2.2.1 (m + 1 + x.2.1.length), ())] : List TShelf).length : Int) by simp, hI]
      simp only [szS]
      congr 3
      omega
  exact key l [] m k hX.symm (by omega) hm.1 (by omega) (by simpa using hl) (fun s hs => (hss s hs).2)

theorem heldDocS_eq {k : Nat} (hk : 1048577 < k) {l : List TDoc} (hs : SmD l) {m : Int} (hm : 0 ≤ m ∧ m ≤ 1000000000000) : VF.laws_heldDocumentS k (mkD l m) m = some ((m + szD l, ()), ()) := by
  obtain ⟨hl, hss⟩ := hs
  unfold VF.laws_heldDocumentS
  rw [join_eq]
  generalize hX : mkD l m = X
  have key : ∀ (post pre : List TDoc) (m : Int) (j : Nat), X = pre ++ mkD post m → post.length < j → 0 ≤ m → m + 2097154 * post.length ≤ 4000000000000 → pre.length + post.length ≤ 1048576 → (∀ d ∈ post, SmE d.2.2.1) →
      iter (VF.laws_heldDocumentS.l1 k X VF.laws_heldDocumentS.j0) j (m, (pre.length : Int)) = some ((m + szD post, ()), ()) := by
    intro post
    induction post with
    | nil =>
      intro pre m j hx hj h0 h1 h2 h3
      obtain ⟨j, rfl⟩ : ∃ p, j = p + 1 := ⟨j - 1, by omega⟩
      rw [iter_succ, hx]; simp [VF.laws_heldDocumentS.l1, VF.laws_heldDocumentS.j0, mkD, szD]
    | cons x post ih =>
      intro pre m j hx hj h0 h1 h2 h3
      obtain ⟨j, rfl⟩ : ∃ p, j = p + 1 := ⟨j - 1, by omega⟩
      simp only [List.length_cons] at hj h1 h2
      have hxx := (h3 x (by simp)).1
      have hI := ih (pre ++ [(m, m + 1, marksE x.2.2.1 (m + 1 + 1), ())]) (m + 1 + 1 + 2 * x.2.2.1.length) j (by rw [hx]; simp [mkD]) (by omega) (by omega) (by omega) (by simp; omega) (fun s hs => h3 s (by simp [hs]))
      rw [iter_succ]
      generalize iter (VF.laws_heldDocumentS.l1 k X VF.laws_heldDocumentS.j0) j = I at *
      have hx' : X = pre ++ (m, m + 1, marksE x.2.2.1 (m + 1 + 1), ()) :: mkD post (m + 1 + 1 + 2 * x.2.2.1.length) := hx
      have hxl : X.length = pre.length + (post.length + 1) := by rw [hx']; simp [mkD_len]
      have w1 : IntKind.wrap .i64 (m + 1) = m + 1 := w64 (by omega) (by omega)
      have w2 : IntKind.wrap .i64 (m + 1 + 1) = m + 1 + 1 := w64 (by omega) (by omega)
      unfold VF.laws_heldDocumentS.l1
      have c1 : decide ((pre.length : Int) < (X.length : Int)) = true := by simp; omega
      have c2 : decide (m + 1 + 1 + 2 * (x.2.2.1.length : Int) < 0) = false := by simp; omega
      simp only [c1, sel_true]
      rw [inb_at hx' rfl, rdL_at hx' rfl, w64 (x := (pre.length : Int) + 1) (by omega) (by omega)]
      simp only [grd_true, bnd_some', w1, w2, decide_true, Bool.not_true, sel_false]
      rw [heldEntryS_eq (by omega) (by omega) (by omega) ⟨by omega, by omega⟩]
      simp only [grd_true, bnd_some', c2, sel_false]
      rw [show ((pre.length : Int) + 1) = ((pre ++ [(m, m + 1, marksE x.2.2.1 (m + 1 + 1), ())] : List TDoc).length : Int) by simp, hI]
      simp only [szD]
      congr 3
      omega
  exact key l [] m k hX.symm (by omega) hm.1 (by omega) (by simpa using hl) hss

theorem markEventS_ex {k : Nat} (hk : 1048577 < k) {l : List TEv} (hl : l.length ≤ 1048576) : ∃ (n : Nat) (q : List TEv), VF.laws_markEventS k l 1 = some ((1 + (n : Int), ()), (q, ())) := by
  unfold VF.laws_markEventS
  rw [join_eq]
  have key : ∀ (post pre : List TEv) (m : Nat) (j : Nat), post.length < j → pre.length + post.length ≤ 1048576 → m ≤ 7 * pre.length →
      ∃ (n : Nat) (q : List TEv), iter (VF.laws_markEventS.l7 k VF.laws_markEventS.j0) j (pre ++ post, 1 + (m : Int), (pre.length : Int)) = some ((1 + (n : Int), ()), (q, ())) := by
    intro post
    induction post with
    | nil =>
      intro pre m j hj h2 h3
      obtain ⟨j, rfl⟩ : ∃ p, j = p + 1 := ⟨j - 1, by omega⟩
      rw [iter_succ]; exact ⟨m, pre, by simp [VF.laws_markEventS.l7, VF.laws_markEventS.j0]⟩
    | cons x post ih =>
      intro pre m j hj h2 h3
      obtain ⟨j, rfl⟩ : ∃ p, j = p + 1 := ⟨j - 1, by omega⟩
      simp only [List.length_cons] at hj h2
      have hI := fun y => ih (pre ++ [y]) (m + 7) j (by omega) (by simp; omega) (by simp; omega)
      rw [iter_succ]
      generalize iter (VF.laws_markEventS.l7 k VF.laws_markEventS.j0) j = I at *
      have w1 : IntKind.wrap .i64 (1 + (m : Int) + 1) = 1 + (m : Int) + 1 := w64 (by omega) (by omega)
      have w2 : IntKind.wrap .i64 (1 + (m : Int) + 1 + 1) = 1 + (m : Int) + 1 + 1 := w64 (by omega) (by omega)
      have w3 : IntKind.wrap .i64 (1 + (m : Int) + 1 + 1 + 1) = 1 + (m : Int) + 1 + 1 + 1 := w64 (by omega) (by omega)
      have w4 : IntKind.wrap .i64 (1 + (m : Int) + 1 + 1 + 1 + 1) = 1 + (m : Int) + 1 + 1 + 1 + 1 := w64 (by omega) (by omega)
      have w5 : IntKind.wrap .i64 (1 + (m : Int) + 1 + 1 + 1 + 1 + 1) = 1 + (m : Int) + 1 + 1 + 1 + 1 + 1 := w64 (by omega) (by omega)
      have w6 : IntKind.wrap .i64 (1 + (m : Int) + 1 + 1 + 1 + 1 + 1 + 1) = 1 + (m : Int) + 1 + 1 + 1 + 1 + 1 + 1 := w64 (by omega) (by omega)
      have w7 : IntKind.wrap .i64 (1 + (m : Int) + 1 + 1 + 1 + 1 + 1 + 1 + 1) = 1 + ((m + 7 : Nat) : Int) := by rw [w64 (by omega) (by omega)]; omega
      simp only [VF.laws_markEventS.l7, VF.laws_markEventS.j6, VF.laws_markEventS.j5, VF.laws_markEventS.j4, VF.laws_markEventS.j3, VF.laws_markEventS.j2, VF.laws_markEventS.j1, join_eq, lt_mid, sel_true, inb_mid, grd_true, rdL_mid, wrL_mid, w1, w2, w3, w4, w5, w6, w7, wnext (show pre.length < 1099511627776 by omega)]
      rw [markText_eq (by omega) (by omega)]
      simp only [bnd_some', inb_mid, grd_true, rdL_mid, wrL_mid]
      obtain ⟨n, q, hq⟩ := hI (1 + (m : Int), 1 + (m : Int) + 1, 1 + (m : Int) + 1 + 1, mtx (1 + (m : Int) + 1 + 1 + 1), 1 + (m : Int) + 1 + 1 + 1 + 1, 1 + (m : Int) + 1 + 1 + 1 + 1 + 1, 1 + (m : Int) + 1 + 1 + 1 + 1 + 1 + 1, x.2.2.2.2.2.2.2)
      simp only [List.append_assoc, List.singleton_append, List.length_append, List.length_cons, List.length_nil, Nat.zero_add] at hq
      exact ⟨n, q, hq⟩
  have := key l [] 0 k (by omega) (by simpa using hl) (by simp)
  simpa using this

theorem books_true (l : List TEv) (hl : OkD (.sl kEv) l) : VF.laws_FnExactBooksOf 1048600 l = some ((true, ()), ()) := by
  unfold VF.laws_FnExactBooksOf
  obtain ⟨r, e1, e2⟩ := szEventS_eq (k := 1048600) (by omega) l hl
  rw [e1, bnd_some']
  by_cases h : r < 0
  · simp [h]
  · rcases e2 with h' | ⟨hlen, hs⟩
    · exact absurd h' h
    · have r1 := toEventS_eq (k := 1048600) (by omega) hlen
      have r2 := spec_Books_eq (k := 1048600) (by omega) hlen hs
      have r3 := impl_Books_eq (k := 1048600) (by omega) hlen hs
      obtain ⟨hB, hR⟩ := booksV_Sm (k := 1048600) hs
      have r5 := eqEventS_refl (k := 1048600) (a := l) (by omega) hlen
      obtain ⟨n, q, r6⟩ := markEventS_ex (k := 1048600) (by omega) hlen
      generalize booksV 1048600 l = V at *
      obtain ⟨⟨S, w, D, ⟨⟩⟩, R⟩ := V
      simp only at hB hR r2 r3
      have r4 := eqBooks_refl (k := 1048600) (by omega) hB
      have r7 := eqIntS_refl (k := 1048600) (a := R) (by omega) (by omega)
      have hS := hB.1
      have hD := hB.2.1
      have bS := szS_bd (l := S) (fun s hs => (hS.2 s hs).2)
      have bD := szD_bd (l := D) hD.2
      have hSl := hS.1
      have hDl := hB.2.2
      simp only at hSl hDl
      have m1 := markShelfS_eq (k := 1048600) (by omega) hS (m := 1) (by omega)
      have m2 := markDocS_eq (k := 1048600) (by omega) hD (m := 1 + szS S) (by omega)
      have m3 := markIntS_eq (k := 1048600) (l := R) (m := 1 + szS S + szD D) (by omega) (by omega) (by omega)
      have g1 := heldShelfS_eq (k := 1048600) (by omega) hS (m := 1) (by omega)
      have g2 := heldDocS_eq (k := 1048600) (by omega) hD (m := 1 + szS S) (by omega)
      have g3 := heldIntS_eq (k := 1048600) (l := R) (m := 1 + szS S + szD D) (by omega) (by omega) (by omega)
      have d1 : decide ((1 + (n : Int)) < 0) = false := by simp; omega
      have d2 : decide (1 + szS S < 0) = false := by simp; omega
      have d3 : decide (1 + szS S + szD D < 0) = false := by simp; omega
      have d4 : decide (1 + szS S + szD D + (R.length : Int) < 0) = false := by simp; omega
      simp only at m1 m2 g1 g2
      simp only [h, decide_false, sel_false, r1, r2, r3, r4, r5, r6, r7, bnd_some', decide_true, Bool.not_true, join_eq, d1, VF.laws_FnExactBooksOf.j2, VF.laws_FnExactBooksOf.j1, VF.laws_FnExactBooksOf.j0, VF.laws_markBooks, VF.laws_heldBooks, m1, m2, m3, g1, g2, g3, d2, d3, d4]
end VM
