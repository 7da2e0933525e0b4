/- The program's books: an event, and all events. -/
import Derived.Test.YtkdkpfnglogpdaaWTc
set_option linter.unusedVariables false
set_option linter.unusedSimpArgs false
namespace VM
open Go

abbrev nSTOCK : Key := [83, 84, 79, 67, 75]
abbrev nSUPPLY : Key := [83, 85, 80, 80, 76, 89]
abbrev nWORK : Key := [87, 79, 82, 75]
abbrev nCASH : Key := [67, 65, 83, 72]
abbrev nSALES : Key := [83, 65, 76, 69, 83]
abbrev nCOST : Key := [67, 79, 83, 84]
abbrev W64 (x : Int) : Int := IntKind.wrap .i64 x

def bookP (k : Nat) (b : TBooks) (e : TEv) : Option TBooks :=
  if e.2.2.1 = 1 then (recB b.1 e).bind fun sh => (postB k b.2.2.1 e.2.1 [(nSTOCK, e.2.2.2.2.2.1, ()), (nSUPPLY, W64 (0 - e.2.2.2.2.2.1), ())]).map fun d => (sh, b.2.1, d, ())
  else if e.2.2.1 = 3 then
    if b.2.1 < e.2.2.2.2.2.1 then none
    else (recB b.1 e).bind fun sh => (postB k b.2.2.1 e.2.1 [(nSTOCK, e.2.2.2.2.2.1, ()), (nWORK, W64 (0 - e.2.2.2.2.2.1), ())]).map fun d => (sh, W64 (b.2.1 - e.2.2.2.2.2.1), d, ())
  else if e.2.2.1 = 2 then
    (issB b.1 e).bind fun p => (postB k b.2.2.1 e.2.1 [(nWORK, p.2, ()), (nSTOCK, W64 (0 - p.2), ())]).bind fun d => if W64 (b.2.1 + p.2) ≤ 1000000000 then some (p.1, W64 (b.2.1 + p.2), d, ()) else none
  else if e.2.2.1 = 4 then
    (issB b.1 e).bind fun p => (postB k b.2.2.1 e.2.1 [(nCASH, e.2.2.2.2.2.1, ()), (nSALES, W64 (0 - e.2.2.2.2.2.1), ()), (nCOST, p.2, ()), (nSTOCK, W64 (0 - p.2), ())]).map fun d => (p.1, b.2.1, d, ())
  else (lateB b.1 e).bind fun p => (postB k b.2.2.1 e.2.1 [(nSTOCK, W64 (e.2.2.2.2.2.1 - p.2), ()), (nCOST, p.2, ()), (nSUPPLY, W64 (0 - e.2.2.2.2.2.1), ())]).map fun d => (p.1, b.2.1, d, ())

def Fit {α β : Type} (f : Option ((Int × Unit) × α × β)) (u : β) (o : Option α) : Prop := ∃ code b', f = some ((code, ()), b', u) ∧ (code = 0 ↔ o.isSome = true) ∧ ∀ b'', o = some b'' → b' = b''
theorem Fit.no {α β : Type} {f : Option ((Int × Unit) × α × β)} {u : β} {c : Int} {b : α} (h : f = some ((c, ()), b, u)) (hc : c ≠ 0) : Fit f u none := ⟨c, b, h, by simpa using hc, by simp⟩
theorem Fit.yes {α β : Type} {f : Option ((Int × Unit) × α × β)} {u : β} {b : α} (h : f = some ((0, ()), b, u)) : Fit f u (some b) := ⟨0, b, h, by simp, fun b'' h' => by simpa using h'⟩

theorem sm2 {a b : Key} {x y : Int} (ha : a.length ≤ 100) (hb : b.length ≤ 100) : SmE [(a, x, ()), (b, y, ())] := ⟨by simp, by intro e he; simp only [List.mem_cons, List.not_mem_nil, or_false] at he; rcases he with rfl | rfl <;> simp only <;> omega⟩
theorem sm3 {a b c : Key} {x y z : Int} (ha : a.length ≤ 100) (hb : b.length ≤ 100) (hc : c.length ≤ 100) : SmE [(a, x, ()), (b, y, ()), (c, z, ())] := ⟨by simp, by intro e he; simp only [List.mem_cons, List.not_mem_nil, or_false] at he; rcases he with rfl | rfl | rfl <;> simp only <;> omega⟩
theorem sm4 {a b c d : Key} {x y z w : Int} (ha : a.length ≤ 100) (hb : b.length ≤ 100) (hc : c.length ≤ 100) (hd : d.length ≤ 100) : SmE [(a, x, ()), (b, y, ()), (c, z, ()), (d, w, ())] := ⟨by simp, by intro e he; simp only [List.mem_cons, List.not_mem_nil, or_false] at he; rcases he with rfl | rfl | rfl | rfl <;> simp only <;> omega⟩

theorem impl_book_fit {k : Nat} (hk : 1048577 < k) {b : TBooks} (hs : SmB b) {e : TEv} (he : e.2.2.1 = 1 ∨ e.2.2.1 = 2 ∨ e.2.2.1 = 3 ∨ e.2.2.1 = 4 ∨ e.2.2.1 = 5) : Fit (VF.impl_book k b e) () (bookP k b e) := by
  obtain ⟨hsS, hd, hdl⟩ := hs
  obtain ⟨S, w, D, _⟩ := b
  obtain ⟨id, day, kind, item, q, amt, ref, _⟩ := e
  simp only at hsS hd hdl he
  have hpost : ∀ (sh : List TShelf) (w : Int) (es : List TEnt), SmE es → es.length ≤ 12 → VF.impl_post k (sh, w, D, ()) day es = some (((postB k D day es).isSome, ()), (sh, w, (postB k D day es).getD D, ()), ()) := fun sh w es h1 h2 => impl_post_eq hk (b := (sh, w, D, ())) hd hdl day h1 h2
  unfold VF.impl_book bookP
  simp only [join_eq, VF.impl_book.j1]
  rcases he with h | h | h | h | h <;> subst h
  · simp only [decide_true, sel_true, if_true]
    obtain ⟨b', hb, hb2⟩ := impl_receive_ex hk (b := (S, w, D, ())) hsS (id, day, 1, item, q, amt, ref, ())
    rw [hb]
    simp only [bnd_some', sel_if] at hb2 ⊢
    cases hr : recB S (id, day, 1, item, q, amt, ref, ()) with
    | none => exact Fit.no (c := 3) rfl (by decide)
    | some sh =>
      rw [hb2 sh hr]
      simp only [Option.isSome_some, if_true]
      rw [hpost _ _ _ (sm2 (by decide) (by decide)) (by simp)]
      simp only [bnd_some', VF.impl_book.j0, Option.bind_some]
      cases postB k D day [(nSTOCK, amt, ()), (nSUPPLY, W64 (0 - amt), ())] with
      | none => exact Fit.no (c := 3) rfl (by decide)
      | some d => exact Fit.yes rfl
  · simp only [show decide ((2 : Int) = 1) = false by rfl, show decide ((2 : Int) = 3) = false by rfl, show decide ((2 : Int) = 4) = false by rfl, sel_false, decide_true, sel_true, show ¬ (2 : Int) = 1 by decide, show ¬ (2 : Int) = 3 by decide, if_false, if_true]
    have hi := impl_issue_eq hk (b := (S, w, D, ())) hsS (id, day, 2, item, q, amt, ref, ())
    rw [hi]
    simp only [bnd_some', sel_if]
    cases issB S (id, day, 2, item, q, amt, ref, ()) with
    | none => exact Fit.no (c := 2) rfl (by decide)
    | some p =>
      simp only [Option.isSome_some, if_true, Option.getD_some, Bool.not_true, Bool.false_eq_true, if_false]
      rw [hpost _ _ _ (sm2 (by decide) (by decide)) (by simp)]
      simp only [bnd_some', VF.impl_book.j0, Option.bind_some]
      cases postB k D day [(nWORK, p.2, ()), (nSTOCK, W64 (0 - p.2), ())] with
      | none => exact Fit.no (c := 3) rfl (by decide)
      | some d =>
        simp only [Option.isSome_some, if_true, Option.getD_some, Option.bind_some]
        by_cases hw : W64 (w + p.2) ≤ 1000000000
        · rw [if_pos hw]
          have hw' : decide (IntKind.wrap .i64 (w + p.2) ≤ 1000000000) = true := by simpa using hw
          rw [hw']
          exact Fit.yes rfl
        · rw [if_neg hw]
          have hw' : decide (IntKind.wrap .i64 (w + p.2) ≤ 1000000000) = false := by simpa using hw
          rw [hw']
          exact Fit.no (c := 3) rfl (by decide)
  · simp only [show decide ((3 : Int) = 1) = false by rfl, sel_false, decide_true, sel_true, show ¬ (3 : Int) = 1 by decide, if_false, if_true]
    by_cases hlt : w < amt
    · simp only [hlt, decide_true, sel_true, if_true]
      exact Fit.no (c := 2) rfl (by decide)
    simp only [hlt, decide_false, sel_false, if_false]
    obtain ⟨b', hb, hb2⟩ := impl_receive_ex hk (b := (S, W64 (w - amt), D, ())) hsS (id, day, 3, item, q, amt, ref, ())
    rw [hb]
    simp only [bnd_some', sel_if] at hb2 ⊢
    cases hr : recB S (id, day, 3, item, q, amt, ref, ()) with
    | none => exact Fit.no (c := 3) rfl (by decide)
    | some sh =>
      rw [hb2 sh hr]
      simp only [Option.isSome_some, if_true]
      rw [hpost _ _ _ (sm2 (by decide) (by decide)) (by simp)]
      simp only [bnd_some', VF.impl_book.j0, Option.bind_some]
      cases postB k D day [(nSTOCK, amt, ()), (nWORK, W64 (0 - amt), ())] with
      | none => exact Fit.no (c := 3) rfl (by decide)
      | some d => exact Fit.yes rfl
  · simp only [show decide ((4 : Int) = 1) = false by rfl, show decide ((4 : Int) = 3) = false by rfl, show decide ((4 : Int) = 2) = false by rfl, sel_false, decide_true, sel_true, show ¬ (4 : Int) = 1 by decide, show ¬ (4 : Int) = 3 by decide, show ¬ (4 : Int) = 2 by decide, if_false, if_true]
    have hi := impl_issue_eq hk (b := (S, w, D, ())) hsS (id, day, 4, item, q, amt, ref, ())
    rw [hi]
    simp only [bnd_some', sel_if]
    cases issB S (id, day, 4, item, q, amt, ref, ()) with
    | none => exact Fit.no (c := 2) rfl (by decide)
    | some p =>
      simp only [Option.isSome_some, if_true, Option.getD_some, Bool.not_true, Bool.false_eq_true, if_false]
      rw [hpost _ _ _ (sm4 (by decide) (by decide) (by decide) (by decide)) (by simp)]
      simp only [bnd_some', VF.impl_book.j0, Option.bind_some]
      cases postB k D day [(nCASH, amt, ()), (nSALES, W64 (0 - amt), ()), (nCOST, p.2, ()), (nSTOCK, W64 (0 - p.2), ())] with
      | none => exact Fit.no (c := 3) rfl (by decide)
      | some d => exact Fit.yes rfl
  · simp only [show decide ((5 : Int) = 1) = false by rfl, show decide ((5 : Int) = 3) = false by rfl, show decide ((5 : Int) = 2) = false by rfl, show decide ((5 : Int) = 4) = false by rfl, sel_false, decide_true, sel_true, show ¬ (5 : Int) = 1 by decide, show ¬ (5 : Int) = 3 by decide, show ¬ (5 : Int) = 2 by decide, show ¬ (5 : Int) = 4 by decide, if_false, if_true]
    obtain ⟨code, hi, hc⟩ := impl_late_ex hk (b := (S, w, D, ())) hsS (id, day, 5, item, q, amt, ref, ())
    rw [hi]
    simp only [bnd_some', sel_if] at hc ⊢
    cases hl : lateB S (id, day, 5, item, q, amt, ref, ()) with
    | none =>
      rw [hl] at hc
      have hc0 : ¬ code = 0 := by simpa using hc
      simp only [hc0, decide_false, Bool.not_false, if_true]
      exact Fit.no (c := code) rfl hc0
    | some p =>
      rw [hl] at hc
      have hc0 : code = 0 := by simpa using hc
      simp only [hc0, decide_true, Bool.not_true, Bool.false_eq_true, if_false, Option.getD_some]
      rw [hpost _ _ _ (sm3 (by decide) (by decide) (by decide)) (by simp)]
      simp only [bnd_some', VF.impl_book.j0, Option.bind_some]
      cases postB k D day [(nSTOCK, W64 (amt - p.2), ()), (nCOST, p.2, ()), (nSUPPLY, W64 (0 - amt), ())] with
      | none => exact Fit.no (c := 3) rfl (by decide)
      | some d => exact Fit.yes rfl

/-- An event in the books, if it can be. -/
def bookE (k : Nat) (b : TBooks) (e : TEv) : Option TBooks := if areB k b = true ∧ isEv k e = true then bookP k b e else none

theorem isEv_kind {k : Nat} {e : TEv} (h : isEv k e = true) : e.2.2.1 = 1 ∨ e.2.2.1 = 2 ∨ e.2.2.1 = 3 ∨ e.2.2.1 = 4 ∨ e.2.2.1 = 5 := by
  simp only [isEv, Bool.and_eq_true] at h
  have h := h.2.2.2
  split at h
  · omega
  · split at h
    · omega
    · split at h
      · omega
      · simp at h

theorem impl_BookEvent_ex {k : Nat} (hk : 1048577 < k) {b : TBooks} (hs : SmB b) {e : TEv} (he : e.2.2.2.1.length ≤ 1048576) :
    ∃ code, VF.impl_BookEvent k b e = some ((((bookE k b e).getD b), code, ()), ()) ∧ (code = 0 ↔ (bookE k b e).isSome = true) := by
  obtain ⟨S, w, D, _⟩ := b
  unfold VF.impl_BookEvent
  simp only [join_eq]
  rw [copyB_eq hk hs]
  simp only [bnd_some']
  rw [impl_AreB_eq hk hs, show VF.impl_IsEvent k (e.1, e.2.1, e.2.2.1, e.2.2.2.1, e.2.2.2.2.1, e.2.2.2.2.2.1, e.2.2.2.2.2.2.1, ()) = _ from impl_IsEvent_eq (e := e) (by omega) (by omega)]
  simp only [bnd_some', sel_if, bookE]
  by_cases h1 : areB k (S, w, D, ()) = true
  case neg => simp only [h1, Bool.not_false, if_true, false_and, if_false]; exact ⟨1, rfl, by simp⟩
  by_cases h2 : isEv k e = true
  case neg => simp only [h1, h2, Bool.not_true, Bool.not_false, Bool.false_eq_true, if_true, and_false, if_false]; exact ⟨1, rfl, by simp⟩
  simp only [h1, h2, Bool.not_true, Bool.false_eq_true, if_false, and_self, if_true]
  unfold VF.impl_BookEvent.j0
  obtain ⟨code, b', e1, e2, e3⟩ := impl_book_fit hk hs (isEv_kind h2)
  rw [show VF.impl_book k (S, w, D, ()) (e.1, e.2.1, e.2.2.1, e.2.2.2.1, e.2.2.2.2.1, e.2.2.2.2.2.1, e.2.2.2.2.2.2.1, ()) = _ from e1]
  simp only [bnd_some', sel_if]
  rw [copyB_eq hk hs]
  cases hb : bookP k (S, w, D, ()) e with
  | none =>
    rw [hb] at e2
    have hc0 : ¬ code = 0 := by simpa using e2
    simp only [hc0, decide_false, Bool.not_false, if_true, bnd_some']
    exact ⟨code, rfl, by simpa using hc0⟩
  | some b'' =>
    rw [hb] at e2
    have hc0 : code = 0 := by simpa using e2
    have := e3 b'' hb
    subst this
    simp only [hc0, decide_true, Bool.not_true, Bool.false_eq_true, if_false]
    exact ⟨0, rfl, by simp⟩
end VM
