/- The reference's books: an event, and all events. -/
import Derived.Test.YtkdkpfnglogpdaaWVb
set_option linter.unusedVariables false
set_option linter.unusedSimpArgs false
namespace VM
open Go

def FitS {α : Type} (f : Option ((α × Int × Unit) × Unit)) (o : Option α) : Prop := ∃ code b', f = some ((b', code, ()), ()) ∧ (code = 0 ↔ o.isSome = true) ∧ ∀ b'', o = some b'' → b' = b''
theorem FitS.no {α : Type} {f : Option ((α × Int × Unit) × Unit)} {c : Int} {b : α} (h : f = some ((b, c, ()), ())) (hc : c ≠ 0) : FitS f none := ⟨c, b, h, by simpa using hc, by simp⟩
theorem FitS.yes {α : Type} {f : Option ((α × Int × Unit) × Unit)} {b : α} (h : f = some ((b, 0, ()), ())) : FitS f (some b) := ⟨0, b, h, by simp, fun b'' h' => by simpa using h'⟩

theorem spec_late_ids {k : Nat} (hk : 1048577 < k) (S : List TShelf) (w : Int) (D : List TDoc) (ev : Int × Int × Int × List UInt8 × Int × Int × Int) (z : List TShelf × Int × List TDoc) {pre post : List TShelf} {s : TShelf} (h1 : S = pre ++ s :: post) (hs : s.2.1.length ≤ 1000)
    (J : (List TShelf × Int × List TDoc) × (Int × Int × Int × List UInt8 × Int × Int × Int) × (List TShelf × Int × List TDoc) × Int × Int → Option ((TBooks × Int × Unit) × Unit)) :
    iter (VF.spec_l36Book.l3 J) k ((S, w, D), ev, z, (pre.length : Int), -1, 0) = J ((S, w, D), ev, z, (pre.length : Int), (lastI s.2.1 ev.2.2.2.2.2.2).2) := by
  have := iter_fold (s := VF.spec_l36Book.l3 J) (fun (a : Int × Int) (i : Nat) => ((S, w, D), ev, z, (pre.length : Int), a.2, (i : Int))) s.2.1
    (fun (a : Int × Int) x => (a.1 + 1, if x = ev.2.2.2.2.2.2 then a.1 else a.2)) (fun a => J ((S, w, D), ev, z, (pre.length : Int), a.2)) (fun p a => a.1 = (p.length : Int))
    (fun a p x q ex h => by simp [h])
    (fun ih a p x q ex h => by
      have hl2 : p.length + (q.length + 1) = s.2.1.length := by rw [ex]; simp
      unfold VF.spec_l36Book.l3
      have c0 : decide ((0 : Int) ≤ (pre.length : Int)) = true := by simp
      have c1 : decide ((p.length : Int) < (s.2.1.length : Int)) = true := by simp; omega
      simp only [c0, sel_true]
      rw [rdL_at h1 rfl, inb_at h1 rfl]
      simp only [c1, grd_true, sel_true]
      rw [inb_at ex rfl, rdL_at ex rfl, w64 (by omega) (by omega)]
      simp only [grd_true, sel_if, decide_eq_true_eq]
      by_cases hx : x = ev.2.2.2.2.2.2
      · simp only [hx, if_true, h]; rfl
      · simp only [hx, if_false]; rfl)
    (fun ih a h => by
      unfold VF.spec_l36Book.l3
      have c0 : decide ((0 : Int) ≤ (pre.length : Int)) = true := by simp
      simp only [c0, sel_true]
      rw [rdL_at h1 rfl, inb_at h1 rfl]
      simp only [grd_true, Int.lt_irrefl, decide_false, sel_false])
    (k := k) (by omega) (a := (0, -1)) rfl
  exact this

theorem spec_book_fit {k : Nat} (hk : 1048577 < k) {b : TBooks} (hs : SmB b) (h12 : b.1.length ≤ 12) {e : TEv} (he : e.2.2.1 = 1 ∨ e.2.2.1 = 2 ∨ e.2.2.1 = 3 ∨ e.2.2.1 = 4 ∨ e.2.2.1 = 5) : FitS (VF.spec_l36Book k b e) (bookP k b e) := by
  obtain ⟨hsS, hd, hdl⟩ := hs
  obtain ⟨S, w, D, _⟩ := b
  obtain ⟨id, day, kind, item, q, amt, ref, _⟩ := e
  simp only at hsS hd hdl he h12
  have hpost : ∀ (sh : List TShelf) (w : Int) (ax : List Key) (xs : List Int), ax.length = xs.length → ax.length ≤ 12 → SmE (zipE ax xs) → ∃ code, VF.spec_l36Post k (sh, w, D, ()) day ax xs = some (((sh, w, (postB k D day (zipE ax xs)).getD D, ()), code, ()), ()) ∧ (code = 0 ↔ (postB k D day (zipE ax xs)).isSome = true) := fun sh w ax xs h1 h2 h3 => spec_post_ex hk (b := (sh, w, D, ())) hd hdl day h1 h2 h3
  unfold VF.spec_l36Book bookP
  simp only [join_eq]
  rcases he with h | h | h | h | h <;> subst h
  · simp only [decide_true, sel_true, if_true]
    obtain ⟨b', code, hb, hc, hb2⟩ := spec_receive_ex hk (b := (S, w, D, ())) hsS h12 (id, day, 1, item, q, amt, ref, ())
    rw [hb]
    simp only [bnd_some', sel_if] at hb2 hc ⊢
    cases hr : recB S (id, day, 1, item, q, amt, ref, ()) with
    | none =>
      rw [hr] at hc
      have hc0 : ¬ code = 0 := by simpa using hc
      simp only [hc0, decide_false, Bool.false_eq_true, if_false, VF.spec_l36Book.j0]
      exact FitS.no (c := code) rfl hc0
    | some sh =>
      rw [hr] at hc
      have hc0 : code = 0 := by simpa using hc
      rw [hb2 sh hr]
      simp only [hc0, decide_true, if_true]
      obtain ⟨c2, e1, e2⟩ := hpost sh w [nSTOCK, nSUPPLY] [amt, W64 (0 - amt)] rfl (by simp) (sm2 (by decide) (by decide))
      rw [e1]
      simp only [bnd_some', VF.spec_l36Book.j0, Option.bind_some, zipE] at e2 ⊢
      cases hp : postB k D day [(nSTOCK, amt, ()), (nSUPPLY, W64 (0 - amt), ())] with
      | none => rw [hp] at e2; exact FitS.no (c := c2) rfl (by simpa using e2)
      | some d =>
        rw [hp] at e2
        have : c2 = 0 := by simpa using e2
        subst this
        exact FitS.yes rfl
  · simp only [show decide ((2 : Int) = 1) = false by rfl, show decide ((2 : Int) = 3) = false by rfl, sel_false, decide_true, sel_true]
    simp only [show ¬ (2 : Int) = 1 by decide, show ¬ (2 : Int) = 3 by decide, if_false, if_true]
    obtain ⟨code, hi, hc⟩ := spec_issue_ex hk (b := (S, w, D, ())) hsS (id, day, 2, item, q, amt, ref, ())
    rw [hi]
    simp only [bnd_some', sel_if] at hc ⊢
    cases hr : issB S (id, day, 2, item, q, amt, ref, ()) with
    | none =>
      rw [hr] at hc
      have hc0 : ¬ code = 0 := by simpa using hc
      simp only [hc0, decide_false, Bool.false_eq_true, if_false, VF.spec_l36Book.j0]
      exact FitS.no (c := code) rfl hc0
    | some p =>
      rw [hr] at hc
      have hc0 : code = 0 := by simpa using hc
      simp only [hc0, decide_true, if_true, Option.getD_some]
      obtain ⟨c2, e1, e2⟩ := hpost p.1 (W64 (w + p.2)) [nWORK, nSTOCK] [p.2, W64 (0 - p.2)] rfl (by simp) (sm2 (by decide) (by decide))
      rw [e1]
      simp only [bnd_some', VF.spec_l36Book.j0, Option.bind_some, zipE] at e2 ⊢
      cases hp : postB k D day [(nWORK, p.2, ()), (nSTOCK, W64 (0 - p.2), ())] with
      | none =>
        rw [hp] at e2
        have hc2 : ¬ c2 = 0 := by simpa using e2
        simp only [hc2, decide_false, Bool.false_eq_true, if_false]
        exact FitS.no (c := c2) rfl hc2
      | some d =>
        rw [hp] at e2
        have hc2 : c2 = 0 := by simpa using e2
        subst hc2
        simp only [decide_true, if_true, Option.bind_some, Option.getD_some, decide_eq_true_eq]
        by_cases hw : W64 (w + p.2) ≤ 1000000000
        · rw [if_pos hw, if_neg (by omega)]
          exact FitS.yes rfl
        · rw [if_neg hw, if_pos (by omega)]
          exact FitS.no (c := 3) rfl (by decide)
  · simp only [show decide ((3 : Int) = 1) = false by rfl, sel_false, decide_true, sel_true]
    simp only [show ¬ (3 : Int) = 1 by decide, if_false, if_true]
    by_cases hlt : w < amt
    · simp only [hlt, decide_true, sel_true, if_true]
      exact FitS.no (c := 2) rfl (by decide)
    simp only [hlt, decide_false, sel_false, if_false]
    obtain ⟨b', code, hb, hc, hb2⟩ := spec_receive_ex hk (b := (S, w, D, ())) hsS h12 (id, day, 3, item, q, amt, ref, ())
    rw [hb]
    simp only [bnd_some', sel_if] at hb2 hc ⊢
    cases hr : recB S (id, day, 3, item, q, amt, ref, ()) with
    | none =>
      rw [hr] at hc
      have hc0 : ¬ code = 0 := by simpa using hc
      simp only [hc0, decide_false, Bool.false_eq_true, if_false, VF.spec_l36Book.j0]
      exact FitS.no (c := code) rfl hc0
    | some sh =>
      rw [hr] at hc
      have hc0 : code = 0 := by simpa using hc
      rw [hb2 sh hr]
      simp only [hc0, decide_true, if_true]
      obtain ⟨c2, e1, e2⟩ := hpost sh (W64 (w - amt)) [nSTOCK, nWORK] [amt, W64 (0 - amt)] rfl (by simp) (sm2 (by decide) (by decide))
      rw [e1]
      simp only [bnd_some', VF.spec_l36Book.j0, Option.bind_some, zipE] at e2 ⊢
      cases hp : postB k D day [(nSTOCK, amt, ()), (nWORK, W64 (0 - amt), ())] with
      | none => rw [hp] at e2; exact FitS.no (c := c2) rfl (by simpa using e2)
      | some d =>
        rw [hp] at e2
        have : c2 = 0 := by simpa using e2
        subst this
        exact FitS.yes rfl
  · simp only [show decide ((4 : Int) = 1) = false by rfl, show decide ((4 : Int) = 3) = false by rfl, show decide ((4 : Int) = 2) = false by rfl, sel_false, decide_true, sel_true]
    simp only [show ¬ (4 : Int) = 1 by decide, show ¬ (4 : Int) = 3 by decide, show ¬ (4 : Int) = 2 by decide, if_false, if_true]
    obtain ⟨code, hi, hc⟩ := spec_issue_ex hk (b := (S, w, D, ())) hsS (id, day, 4, item, q, amt, ref, ())
    rw [hi]
    simp only [bnd_some', sel_if] at hc ⊢
    cases hr : issB S (id, day, 4, item, q, amt, ref, ()) with
    | none =>
      rw [hr] at hc
      have hc0 : ¬ code = 0 := by simpa using hc
      simp only [hc0, decide_false, Bool.false_eq_true, if_false, VF.spec_l36Book.j0]
      exact FitS.no (c := code) rfl hc0
    | some p =>
      rw [hr] at hc
      have hc0 : code = 0 := by simpa using hc
      simp only [hc0, decide_true, if_true, Option.getD_some]
      obtain ⟨c2, e1, e2⟩ := hpost p.1 w [nCASH, nSALES, nCOST, nSTOCK] [amt, W64 (0 - amt), p.2, W64 (0 - p.2)] rfl (by simp) (sm4 (by decide) (by decide) (by decide) (by decide))
      rw [e1]
      simp only [bnd_some', VF.spec_l36Book.j0, Option.bind_some, zipE] at e2 ⊢
      cases hp : postB k D day [(nCASH, amt, ()), (nSALES, W64 (0 - amt), ()), (nCOST, p.2, ()), (nSTOCK, W64 (0 - p.2), ())] with
      | none => rw [hp] at e2; exact FitS.no (c := c2) rfl (by simpa using e2)
      | some d =>
        rw [hp] at e2
        have : c2 = 0 := by simpa using e2
        subst this
        exact FitS.yes rfl
  · simp only [show decide ((5 : Int) = 1) = false by rfl, show decide ((5 : Int) = 3) = false by rfl, show decide ((5 : Int) = 2) = false by rfl, show decide ((5 : Int) = 4) = false by rfl, sel_false, decide_true, sel_true]
    simp only [show ¬ (5 : Int) = 1 by decide, show ¬ (5 : Int) = 3 by decide, show ¬ (5 : Int) = 2 by decide, show ¬ (5 : Int) = 4 by decide, if_false, if_true]
    rw [show VF.spec_l36Shelf k (S, w, D, ()) item = _ from spec_shelf_eq hk hsS.1 _]
    simp only [bnd_some']
    unfold lateB
    simp only
    rcases idxS_cases S item with ⟨h1, h2⟩ | ⟨pre, s, post, h1, h2, h3, h4⟩
    · rw [h1]
      obtain ⟨k', rfl⟩ : ∃ m, k = m + 1 := ⟨k - 1, by omega⟩
      rw [iter_succ]
      generalize iter _ k' = I
      unfold VF.spec_l36Book.l3
      simp only [show decide ((0 : Int) ≤ -1) = false by rfl, sel_false]
      unfold VF.spec_l36Book.j2
      simp only [show decide ((-1 : Int) < 0) = true by rfl, sel_true]
      exact FitS.no (c := 4) rfl (by decide)
    · rw [h3]
      have c2 : ¬ (pre.length : Int) < 0 := by omega
      have hsx := hsS.2 s (by rw [h1]; simp)
      rw [spec_late_ids hk S w D _ _ h1 hsx.2.1]
      simp only [c2, if_false]
      rw [rdL_at h1 rfl]
      unfold VF.spec_l36Book.j2
      simp only [sel_if, decide_eq_true_eq]
      by_cases h6 : (lastI s.2.1 ref).2 < 0
      · simp only [h6, if_true]
        exact FitS.no (c := 4) rfl (by decide)
      simp only [h6, if_false]
      rw [inb_at h1 rfl, rdL_at h1 rfl, spec_late_eq hk hsx.2.2]
      simp only [grd_true, bnd_some', join_eq]
      cases hr : lateL s.2.2.1 (lastI s.2.1 ref).2 amt with
      | none =>
        simp only [Option.isSome_none, Bool.not_false, if_true]
        exact FitS.no (c := 2) rfl (by decide)
      | some p =>
        simp only [Option.isSome_some, Bool.not_true, Bool.false_eq_true, if_false, Option.getD_some]
        unfold VF.spec_l36Book.j1
        obtain ⟨c2, e1, e2⟩ := hpost (wrL S (pre.length : Int) (s.1, s.2.1, p.1, s.2.2.2)) w [nSTOCK, nCOST, nSUPPLY] [W64 (amt - p.2), p.2, W64 (0 - amt)] rfl (by simp) (sm3 (by decide) (by decide) (by decide))
        rw [e1]
        simp only [bnd_some', VF.spec_l36Book.j0, Option.map_some, Option.bind_some, zipE] at e2 ⊢
        cases hp : postB k D day [(nSTOCK, W64 (amt - p.2), ()), (nCOST, p.2, ()), (nSUPPLY, W64 (0 - amt), ())] with
        | none => rw [hp] at e2; exact FitS.no (c := c2) rfl (by simpa using e2)
        | some d =>
          rw [hp] at e2
          have : c2 = 0 := by simpa using e2
          subst this
          exact FitS.yes rfl

theorem spec_BookEvent_ex {k : Nat} (hk : 1048577 < k) {b : TBooks} (hs : SmB b) {e : TEv} (he : e.2.2.2.1.length ≤ 1048576) :
    ∃ code, VF.spec_BookEvent k b e = some ((((bookE k b e).getD b), code, ()), ()) ∧ (code = 0 ↔ (bookE k b e).isSome = true) := by
  obtain ⟨S, w, D, _⟩ := b
  unfold VF.spec_BookEvent
  simp only [join_eq]
  rw [spec_AreB_eq hk hs, spec_copyB_eq hk hs, show VF.spec_IsEvent k (e.1, e.2.1, e.2.2.1, e.2.2.2.1, e.2.2.2.2.1, e.2.2.2.2.2.1, e.2.2.2.2.2.2.1, ()) = _ from spec_IsEvent_eq (e := e) (by omega) (by omega)]
  simp only [bnd_some', sel_if, bookE]
  by_cases h1 : areB k (S, w, D, ()) = true
  case neg => simp only [h1, Bool.not_false, if_true, false_and, if_false]; exact ⟨1, rfl, by simp⟩
  by_cases h2 : isEv k e = true
  case neg => simp only [h1, h2, Bool.not_true, Bool.not_false, Bool.false_eq_true, if_true, and_false, if_false]; exact ⟨1, rfl, by simp⟩
  simp only [h1, h2, Bool.not_true, Bool.false_eq_true, if_false, and_self, if_true]
  unfold VF.spec_BookEvent.j0
  have h12 : S.length ≤ 12 := by
    simp only [areB, Bool.and_eq_true, decide_eq_true_eq] at h1
    exact h1.2.1
  rw [spec_copyB_eq hk hs]
  simp only [bnd_some']
  obtain ⟨code, b', e1, e2, e3⟩ := spec_book_fit hk hs h12 (isEv_kind h2)
  rw [show VF.spec_l36Book k (S, w, D, ()) (e.1, e.2.1, e.2.2.1, e.2.2.2.1, e.2.2.2.2.1, e.2.2.2.2.2.1, e.2.2.2.2.2.2.1, ()) = _ from e1]
  simp only [bnd_some', sel_if]
  cases hb : bookP k (S, w, D, ()) e with
  | none =>
    rw [hb] at e2
    have hc0 : ¬ code = 0 := by simpa using e2
    simp only [hc0, decide_false, Bool.not_false, if_true, bnd_some']
    exact ⟨code, rfl, by simpa using hc0⟩
  | some b'' =>
    rw [hb] at e2
    have hc0 : code = 0 := by simpa using e2
    have := e3 b'' hb
    subst this
    simp only [hc0, decide_true, Bool.not_true, Bool.false_eq_true, if_false]
    exact ⟨0, rfl, by simp⟩

theorem spec_Books_eq {k : Nat} (hk : 1048577 < k) {l : List TEv} (hl : l.length ≤ 1048576) (hs : SmV l) : VF.spec_BooksOf k l = some (((booksV k l).1, (booksV k l).2, ()), ()) := by
  unfold VF.spec_BooksOf
  simp only [join_eq]
  rw [spec_Sort_eq hk hl hs]
  simp only [bnd_some']
  have hlen := sortV_len k l
  have hsub := sortV_sub (k := k) (l := l)
  unfold booksV
  generalize sortV k l = Z at *
  have := iter_fold (s := VF.spec_BooksOf.l1 k VF.spec_BooksOf.j0) (fun (a : TBooks × List Int) (i : Nat) => ((([] : List TShelf), (0 : Int), ([] : List TDoc)), (a.1.1, a.1.2.1, a.1.2.2.1), a.2, Z, (i : Int))) Z (bookF k) (fun a => some (((a.1, a.2, ()), ()))) (fun pre a => SmB a.1 ∧ a.2.length ≤ pre.length)
    (fun a pre x post e h => by
      have hx := hs x (hsub x (by rw [e]; simp))
      have := bookF_Sm (k := k) h.1 hx
      exact ⟨this.1, by simp; omega⟩)
    (fun ih a pre x post e h => by
      have hx := hs x (hsub x (by rw [e]; simp))
      have hl2 : pre.length + (post.length + 1) = Z.length := by rw [e]; simp
      have hh := h.2
      unfold VF.spec_BooksOf.l1
      have c1 : decide ((pre.length : Int) < (Z.length : Int)) = true := by simp; omega
      simp only [c1, sel_true, etaE]
      rw [inb_at e rfl, rdL_at e rfl, w64 (by omega) (by omega)]
      obtain ⟨code, e1, e2⟩ := spec_BookEvent_ex hk h.1 hx
      rw [show VF.spec_BookEvent k (a.1.1, a.1.2.1, a.1.2.2.1, ()) x = _ from e1]
      simp only [grd_true, bnd_some', sel_if]
      rw [fits_of (by decide) (by omega)]
      unfold bookF
      cases hb : bookE k a.1 x with
      | none =>
        rw [hb] at e2
        have hc0 : ¬ code = 0 := by simpa using e2
        simp only [hc0, decide_false, Bool.false_eq_true, if_false, grd_true]
        rfl
      | some b =>
        rw [hb] at e2
        have hc0 : code = 0 := by simpa using e2
        simp only [hc0, decide_true, if_true]
        rfl)
    (fun ih a h => by
      unfold VF.spec_BooksOf.l1
      simp [VF.spec_BooksOf.j0])
    (k := k) (by omega) (a := (([], 0, [], ()), [])) ⟨⟨⟨by simp, by simp⟩, ⟨by simp, by simp⟩, by simp⟩, by simp⟩
  exact this
end VM
