/- The program's books: all events. -/
import Derived.Test.YtkdkpfnglogpdaaWTd
set_option linter.unusedVariables false
set_option linter.unusedSimpArgs false
namespace VM
open Go

def Bd (n : Nat) (sh : List TShelf) : Prop := sh.length ≤ n ∧ ∀ s ∈ sh, s.1.length ≤ 1048576 ∧ s.2.1.length ≤ n ∧ s.2.2.1.length ≤ n
theorem Bd.sm {n : Nat} {sh : List TShelf} (h : Bd n sh) (hn : n ≤ 1000) : SmS sh := ⟨by have := h.1; omega, fun s hs => by have := h.2 s hs; omega⟩
theorem wrL_mem {α : Type} {l : List α} {i : Int} {y s : α} (h : s ∈ wrL l i y) : s ∈ l ∨ s = y := List.mem_or_eq_of_mem_set h
theorem wrL_len {α : Type} (l : List α) (i : Int) (y : α) : (wrL l i y).length = l.length := by simp [wrL]
theorem rdL_bd {n : Nat} {sh : List TShelf} (h : Bd n sh) (i : Int) : (rdL sh i S0).1.length ≤ 1048576 ∧ (rdL sh i S0).2.1.length ≤ n ∧ (rdL sh i S0).2.2.1.length ≤ n := by
  unfold rdL
  by_cases hi : i.toNat < sh.length
  · rw [List.getD_eq_getElem?_getD, List.getElem?_eq_getElem hi]
    exact h.2 _ (List.getElem_mem hi)
  · rw [List.getD_eq_getElem?_getD, List.getElem?_eq_none (by omega)]
    simp
theorem wr_bd {n m : Nat} {sh : List TShelf} (h : Bd n sh) (hn : n ≤ m) (i : Int) {y : TShelf} (hy : y.1.length ≤ 1048576 ∧ y.2.1.length ≤ m ∧ y.2.2.1.length ≤ m) : Bd m (wrL sh i y) := by
  refine ⟨by rw [wrL_len]; have := h.1; omega, ?_⟩
  intro s hs
  rcases wrL_mem hs with hs | rfl
  · have := h.2 s hs; omega
  · exact hy

theorem recL_len {l ls : List TLay} {q v : Int} (h : recL l q v = some ls) : ls.length = l.length + 1 := by
  unfold recL at h
  split at h
  · simp only [Option.some.injEq] at h; rw [← h]; simp
  · simp at h
theorem recAt_bd {n : Nat} {sh sh' : List TShelf} (h : Bd n sh) {i : Int} {e : TEv} (hr : recAt sh i e = some sh') : Bd (n + 1) sh' := by
  unfold recAt at hr
  cases hl : recL (rdL sh i S0).2.2.1 e.2.2.2.2.1 e.2.2.2.2.2.1 with
  | none => rw [hl] at hr; simp at hr
  | some ls =>
    rw [hl] at hr
    simp only [Option.map_some, Option.some.injEq] at hr
    have h1 := rdL_bd h i
    have h2 := recL_len hl
    rw [← hr]
    exact wr_bd h (by omega) i ⟨h1.1, by simp; omega, by simp only; omega⟩
theorem ins_len (p : TShelf → Bool) (l : List TShelf) (x : TShelf) : (l.takeWhile p ++ x :: l.dropWhile p).length = l.length + 1 := by
  rw [List.length_append, List.length_cons, ← Nat.add_assoc, ← List.length_append, List.takeWhile_append_dropWhile]
theorem insS_bd {n : Nat} {sh : List TShelf} (h : Bd n sh) {item : List UInt8} (hi : item.length ≤ 1048576) : Bd (n + 1) (insS sh item) := by
  have hl := h.1
  unfold insS
  refine ⟨?_, ?_⟩
  · have := ins_len (fun s => ltS s.1 item) sh (item, [], [], ())
    exact Nat.le_trans (Nat.le_of_eq this) (by omega)
  intro s hs
  rcases List.mem_append.1 hs with hs | hs
  · have := h.2 s ((List.takeWhile_sublist _).mem hs); omega
  · rcases List.mem_cons.1 hs with rfl | hs
    · exact ⟨hi, by simp, by simp⟩
    · have := h.2 s ((List.dropWhile_sublist _).mem hs); omega
theorem recB_bd {n : Nat} {sh sh' : List TShelf} (h : Bd n sh) {e : TEv} (he : e.2.2.2.1.length ≤ 1048576) (hr : recB sh e = some sh') : Bd (n + 2) sh' := by
  unfold recB at hr
  split at hr
  · split at hr
    · simp at hr
    · exact recAt_bd (insS_bd h he) hr
  · have := recAt_bd h hr
    exact ⟨by have := this.1; omega, fun s hs => by have := this.2 s hs; omega⟩

theorem issF_len : ∀ (l : List TLay) (a : Int × List TLay × Int), (l.foldl issF a).2.1.length = a.2.1.length + l.length := by
  intro l
  induction l with
  | nil => intro a; simp
  | cons x l ih => intro a; rw [List.foldl_cons, ih]; simp [issF]; omega
theorem issL_len {l : List TLay} {q : Int} {p : List TLay × Int} (h : issL l q = some p) : p.1.length = l.length := by
  unfold issL at h
  split at h
  · simp only [Option.some.injEq] at h; rw [← h]; unfold issP; rw [issF_len]; simp
  · simp at h
theorem issB_bd {n : Nat} {sh : List TShelf} (h : Bd n sh) {e : TEv} {p : List TShelf × Int} (hr : issB sh e = some p) : Bd n p.1 := by
  unfold issB at hr
  split at hr
  · simp at hr
  · cases hl : issL (rdL sh (idxS sh e.2.2.2.1) S0).2.2.1 e.2.2.2.2.1 with
    | none => rw [hl] at hr; simp at hr
    | some x =>
      rw [hl] at hr
      simp only [Option.map_some, Option.some.injEq] at hr
      have h1 := rdL_bd h (idxS sh e.2.2.2.1)
      have h2 := issL_len hl
      rw [← hr]
      exact wr_bd h (Nat.le_refl _) _ ⟨h1.1, h1.2.1, by simp only; omega⟩
theorem lateL_len {l : List TLay} {i v : Int} {p : List TLay × Int} (h : lateL l i v = some p) : p.1.length = l.length := by
  unfold lateL at h
  split at h
  · split at h
    · simp only [Option.some.injEq] at h; rw [← h]; simp only [wrL_len]
    · simp at h
  · simp at h
theorem lateB_bd {n : Nat} {sh : List TShelf} (h : Bd n sh) {e : TEv} {p : List TShelf × Int} (hr : lateB sh e = some p) : Bd n p.1 := by
  unfold lateB at hr
  split at hr
  · simp at hr
  · split at hr
    · simp at hr
    · cases hl : lateL (rdL sh (idxS sh e.2.2.2.1) S0).2.2.1 (lastI (rdL sh (idxS sh e.2.2.2.1) S0).2.1 e.2.2.2.2.2.2.1).2 e.2.2.2.2.2.1 with
      | none => rw [hl] at hr; simp at hr
      | some x =>
        rw [hl] at hr
        simp only [Option.map_some, Option.some.injEq] at hr
        have h1 := rdL_bd h (idxS sh e.2.2.2.1)
        have h2 := lateL_len hl
        rw [← hr]
        exact wr_bd h (Nat.le_refl _) _ ⟨h1.1, h1.2.1, by simp only; omega⟩

theorem postB_Sm {k : Nat} {docs docs' : List TDoc} (hd : SmD docs) (hdl : docs.length ≤ 120) {day : Int} {es : List TEnt} (he : SmE es) (h : postB k docs day es = some docs') : SmD docs' ∧ docs'.length ≤ 1000 := by
  unfold postB at h
  split at h
  · simp only [Option.some.injEq] at h; rw [← h]; exact ⟨hd, by omega⟩
  · split at h
    · simp only [Option.some.injEq] at h
      rw [← h]
      exact ⟨newD_Sm hd (by omega) he day, by simp [newD]; omega⟩
    · simp at h

theorem areB_bd {k : Nat} {b : TBooks} (h : areB k b = true) (hs : SmB b) : Bd 24 b.1 ∧ b.2.2.1.length ≤ 120 := by
  simp only [areB, Bool.and_eq_true, decide_eq_true_eq] at h
  refine ⟨⟨by have := h.2.1; omega, ?_⟩, areDoc_len h.2.2.2⟩
  intro s hs'
  obtain ⟨q, hq⟩ := allP_mem h.1 s hs'
  simp only [okS, Bool.and_eq_true, decide_eq_true_eq] at hq
  have h1 := areL_len hq.2.2.1
  have h2 := hs.1.2 s hs'
  exact ⟨h2.1, by omega, by omega⟩

theorem bookE_Sm {k : Nat} {b b' : TBooks} (hs : SmB b) {e : TEv} (he : e.2.2.2.1.length ≤ 1048576) (h : bookE k b e = some b') : SmB b' := by
  unfold bookE at h
  split at h
  case isFalse => simp at h
  rename_i hc
  obtain ⟨hb, hdl⟩ := areB_bd hc.1 hs
  have hd := hs.2.1
  obtain ⟨S, w, D, _⟩ := b
  obtain ⟨id, day, kind, item, q, amt, ref, _⟩ := e
  unfold bookP at h
  simp only at h hb hdl hd he
  have fin : ∀ (sh : List TShelf) (w : Int) (es : List TEnt) (d : List TDoc), Bd 26 sh → SmE es → postB k D day es = some d → SmB (sh, w, d, ()) := by
    intro sh w es d h1 h2 h3
    have := postB_Sm hd hdl h2 h3
    exact ⟨h1.sm (by omega), this.1, this.2⟩
  have up : ∀ {sh : List TShelf}, Bd 24 sh → Bd 26 sh := fun {sh} h => ⟨by have := h.1; omega, fun s hs => by have := h.2 s hs; omega⟩
  split at h
  · simp only [Option.bind_eq_some_iff, Option.map_eq_some_iff] at h
    obtain ⟨sh, h1, d, h2, rfl⟩ := h
    exact fin _ _ _ _ (recB_bd hb he h1) (sm2 (by decide) (by decide)) h2
  · split at h
    · split at h
      · simp at h
      · simp only [Option.bind_eq_some_iff, Option.map_eq_some_iff] at h
        obtain ⟨sh, h1, d, h2, rfl⟩ := h
        exact fin _ _ _ _ (recB_bd hb he h1) (sm2 (by decide) (by decide)) h2
    · split at h
      · simp only [Option.bind_eq_some_iff] at h
        obtain ⟨p, h1, d, h2, h3⟩ := h
        split at h3
        · simp only [Option.some.injEq] at h3
          rw [← h3]
          exact fin _ _ _ _ (up (issB_bd hb h1)) (sm2 (by decide) (by decide)) h2
        · simp at h3
      · split at h
        · simp only [Option.bind_eq_some_iff, Option.map_eq_some_iff] at h
          obtain ⟨p, h1, d, h2, rfl⟩ := h
          exact fin _ _ _ _ (up (issB_bd hb h1)) (sm4 (by decide) (by decide) (by decide) (by decide)) h2
        · simp only [Option.bind_eq_some_iff, Option.map_eq_some_iff] at h
          obtain ⟨p, h1, d, h2, rfl⟩ := h
          exact fin _ _ _ _ (up (lateB_bd hb h1)) (sm3 (by decide) (by decide) (by decide)) h2

/-- The books of events that are sorted, and those that are rejected. -/
def bookF (k : Nat) (a : TBooks × List Int) (e : TEv) : TBooks × List Int := match bookE k a.1 e with | some b => (b, a.2) | none => (a.1, a.2 ++ [e.1])
def booksV (k : Nat) (l : List TEv) : TBooks × List Int := (sortV k l).foldl (bookF k) (([], 0, [], ()), [])

theorem sortV_len (k : Nat) (l : List TEv) : (sortV k l).length ≤ 100 := by
  unfold sortV
  split
  · rename_i h
    have : ∀ (m : List TEv), (sortE m).length ≤ m.length := by
      intro m
      induction m using snoc_ind with
      | h0 => simp [sortE]
      | h1 m x ih =>
        rw [sortE, List.foldl_append]
        have := putE_len (sortE m) x
        simp only [List.length_append, List.length_cons, List.length_nil]
        simp only [sortE, List.foldl_cons, List.foldl_nil] at this ih ⊢
        omega
    exact Nat.le_trans (this _) (Nat.le_trans (List.length_filter_le _ _) h)
  · simp
theorem sortV_sub {k : Nat} {l : List TEv} : ∀ e ∈ sortV k l, e ∈ l := by
  intro e he
  unfold sortV at he
  split at he
  · exact (List.mem_filter.1 ((sortE_chr _).2 e |>.1 he).1).1
  · simp at he

theorem bookF_Sm {k : Nat} {a : TBooks × List Int} (hs : SmB a.1) {e : TEv} (he : e.2.2.2.1.length ≤ 1048576) : SmB (bookF k a e).1 ∧ (bookF k a e).2.length ≤ a.2.length + 1 := by
  unfold bookF
  cases h : bookE k a.1 e with
  | none => exact ⟨hs, by simp⟩
  | some b => exact ⟨bookE_Sm hs he h, by simp⟩

theorem impl_Books_eq {k : Nat} (hk : 1048577 < k) {l : List TEv} (hl : l.length ≤ 1048576) (hs : SmV l) : VF.impl_BooksOf k l = some (((booksV k l).1, (booksV k l).2, ()), ()) := by
  unfold VF.impl_BooksOf
  simp only [join_eq]
  rw [impl_Sort_eq hk hl hs]
  simp only [bnd_some']
  have hlen := sortV_len k l
  have hsub := sortV_sub (k := k) (l := l)
  unfold booksV
  generalize sortV k l = Z at *
  have := iter_fold (s := VF.impl_BooksOf.l1 k VF.impl_BooksOf.j0) (fun (a : TBooks × List Int) (i : Nat) => ((([] : List TShelf), (0 : Int), ([] : List TDoc)), (a.1.1, a.1.2.1, a.1.2.2.1), a.2, Z, (Z.length : Int), (i : Int))) Z (bookF k) (fun a => some (((a.1, a.2, ()), ()))) (fun pre a => SmB a.1 ∧ a.2.length ≤ pre.length)
    (fun a pre x post e h => by
      have hx := hs x (hsub x (by rw [e]; simp))
      have := bookF_Sm (k := k) h.1 hx
      exact ⟨this.1, by simp; omega⟩)
    (fun ih a pre x post e h => by
      have hx := hs x (hsub x (by rw [e]; simp))
      have hl2 : pre.length + (post.length + 1) = Z.length := by rw [e]; simp
      have hh := h.2
      unfold VF.impl_BooksOf.l1
      have c1 : decide ((pre.length : Int) < (Z.length : Int)) = true := by simp; omega
      simp only [c1, sel_true, etaE]
      rw [inb_at e rfl, rdL_at e rfl, w64 (by omega) (by omega)]
      obtain ⟨code, e1, e2⟩ := impl_BookEvent_ex hk h.1 hx
      rw [show VF.impl_BookEvent k (a.1.1, a.1.2.1, a.1.2.2.1, ()) x = _ from e1]
      simp only [grd_true, bnd_some', sel_if]
      rw [fits_of (by decide) (by omega)]
      unfold bookF
      cases hb : bookE k a.1 x with
      | none =>
        rw [hb] at e2
        have hc0 : ¬ code = 0 := by simpa using e2
        simp only [hc0, decide_false, Bool.not_false, if_true, grd_true]
        rfl
      | some b =>
        rw [hb] at e2
        have hc0 : code = 0 := by simpa using e2
        simp only [hc0, decide_true, Bool.not_true, Bool.false_eq_true, if_false]
        rfl)
    (fun ih a h => by
      unfold VF.impl_BooksOf.l1
      simp [VF.impl_BooksOf.j0])
    (k := k) (by omega) (a := (([], 0, [], ()), [])) ⟨⟨⟨by simp, by simp⟩, ⟨by simp, by simp⟩, by simp⟩, by simp⟩
  exact this
theorem booksV_Sm {k : Nat} {l : List TEv} (hs : SmV l) : SmB (booksV k l).1 ∧ (booksV k l).2.length ≤ 100 := by
  have hlen := sortV_len k l
  have hsub := sortV_sub (k := k) (l := l)
  unfold booksV
  generalize sortV k l = Z at *
  have : ∀ (Z : List TEv) (a : TBooks × List Int) (n : Nat), (∀ e ∈ Z, e ∈ l) → SmB a.1 → a.2.length ≤ n → SmB (Z.foldl (bookF k) a).1 ∧ (Z.foldl (bookF k) a).2.length ≤ n + Z.length := by
    intro Z
    induction Z with
    | nil => intro a n _ h1 h2; exact ⟨h1, by simpa using h2⟩
    | cons x Z ih =>
      intro a n hz h1 h2
      have := bookF_Sm (k := k) h1 (hs x (hz x (by simp)))
      have := ih _ (n + 1) (fun e he => hz e (by simp [he])) this.1 (by omega)
      rw [List.foldl_cons]
      exact ⟨this.1, by simp only [List.length_cons]; omega⟩
  have := this Z (([], 0, [], ()), []) 0 hsub ⟨⟨by simp, by simp⟩, ⟨by simp, by simp⟩, by simp⟩ (by simp)
  exact ⟨this.1, by omega⟩
end VM
