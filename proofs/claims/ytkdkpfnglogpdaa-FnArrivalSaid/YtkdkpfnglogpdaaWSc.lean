/- The merging of two sorted pieces of a list of events, in place; the stable sort. -/
import Derived.Test.YtkdkpfnglogpdaaWSb
set_option linter.unusedVariables false
set_option linter.unusedSimpArgs false
namespace VM
open Go

/-- A search that halves. -/
theorem bin_eq {R D : Type} {s : (D → Option R) → D → Option R} (st : Nat → Nat → D) (q : Nat → Bool) (J : Nat → Option R) (lo hi : Nat)
    (hstep : ∀ ih i j, lo ≤ i → i < j → j ≤ hi → s ih (st i j) = if q ((i + j) / 2) = true then ih (st ((i + j) / 2 + 1) j) else ih (st i ((i + j) / 2)))
    (hend : ∀ ih i, lo ≤ i → i ≤ hi → s ih (st i i) = J i) (hle : lo ≤ hi) {k : Nat} (hk : hi - lo < k) :
    ∃ i, lo ≤ i ∧ i ≤ hi ∧ iter s k (st lo hi) = J i ∧ (i = lo ∨ q (i - 1) = true) ∧ (i = hi ∨ q i = false) := by
  have key : ∀ n i j, lo ≤ i → i ≤ j → j ≤ hi → j - i ≤ n → (i = lo ∨ q (i - 1) = true) → (j = hi ∨ q j = false) → ∀ k, n < k →
      ∃ i', lo ≤ i' ∧ i' ≤ hi ∧ iter s k (st i j) = J i' ∧ (i' = lo ∨ q (i' - 1) = true) ∧ (i' = hi ∨ q i' = false) := by
    intro n
    induction n with
    | zero =>
      intro i j h1 h2 h3 h4 h5 h6 k hk
      obtain ⟨k, rfl⟩ : ∃ p, k = p + 1 := ⟨k - 1, by omega⟩
      have : j = i := by omega
      subst this
      exact ⟨j, h1, h3, by rw [iter_succ, hend _ _ h1 h3], h5, h6⟩
    | succ n ih =>
      intro i j h1 h2 h3 h4 h5 h6 k hk
      obtain ⟨k, rfl⟩ : ∃ p, k = p + 1 := ⟨k - 1, by omega⟩
      rcases Nat.lt_or_ge i j with h | h
      · rw [iter_succ, hstep _ _ _ h1 h h3]
        cases hq : q ((i + j) / 2) with
        | true =>
          simp only [if_true]
          exact ih _ _ (by omega) (by omega) h3 (by omega) (.inr (by simpa using hq)) h6 k (by omega)
        | false =>
          simp only [Bool.false_eq_true, if_false]
          exact ih _ _ h1 (by omega) (by omega) (by omega) h5 (.inr hq) k (by omega)
      · have : j = i := by omega
        subst this
        exact ⟨j, h1, h3, by rw [iter_succ, hend _ _ h1 h3], h5, h6⟩
  exact key (hi - lo) lo hi (Nat.le_refl _) hle (Nat.le_refl _) (Nat.le_refl _) (.inl rfl) (.inl rfl) k hk

abbrev E0 : TEv := (0, 0, 0, [], 0, 0, 0, ())

theorem rdL_seg {α : Type} {d A L B : List α} {z : α} {t : Nat} {i : Int} (h : d = A ++ (L ++ B)) (hi : i = (A.length + t : Nat)) (ht : t < L.length) : rdL d i z = L.getD t z := by
  subst h hi
  simp only [rdL, Int.toNat_natCast, List.getD_eq_getElem?_getD]
  rw [List.getElem?_append_right (by omega), List.getElem?_append_left (by omega)]
  congr 2; omega
theorem inb_seg {α : Type} {d A L B : List α} {t : Nat} {i : Int} (h : d = A ++ (L ++ B)) (hi : i = (A.length + t : Nat)) (ht : t < L.length) : inb d i = true := by
  subst h hi
  exact inb_of' (by omega) (by simp; omega)
where inb_of' {l : List α} {v : Int} (h0 : 0 ≤ v) (h1 : v < (l.length : Int)) : inb l v = true := by simp [inb, h0, h1]

theorem srt_take {L : List TEv} (h : Srt L) {t : Nat} (h0 : 0 < t) (ht : t ≤ L.length) : ∀ y ∈ L.take t, ¬ ltE (L.getD (t - 1) E0) y := by
  have hlt : t - 1 < L.length := by omega
  have e : L.take t = L.take (t - 1) ++ [L.getD (t - 1) E0] := by
    have := List.take_succ_eq_append_getElem hlt
    rw [show t - 1 + 1 = t by omega] at this
    rw [this, List.getD_eq_getElem?_getD, List.getElem?_eq_getElem hlt]; rfl
  intro y hy
  have hp : Srt (L.take t) := h.sublist (List.take_sublist _ _)
  rw [e] at hp hy
  rcases List.mem_append.1 hy with hy | hy
  · exact (List.pairwise_append.1 hp).2.2 y hy _ (by simp)
  · simp only [List.mem_singleton] at hy; rw [hy]; exact ltE_irrefl _
theorem srt_drop {L : List TEv} (h : Srt L) {t : Nat} (ht : t < L.length) : ∀ y ∈ L.drop t, ¬ ltE y (L.getD t E0) := by
  have e : L.drop t = L.getD t E0 :: L.drop (t + 1) := by
    rw [List.drop_eq_getElem_cons ht, List.getD_eq_getElem?_getD, List.getElem?_eq_getElem ht]; rfl
  intro y hy
  have hp : Srt (L.drop t) := h.sublist (List.drop_sublist _ _)
  rw [e] at hp hy
  rcases List.mem_cons.1 hy with rfl | hy
  · exact ltE_irrefl _
  · exact (List.pairwise_cons.1 hp).1 y hy

theorem cross {X Y : List TEv} (hX : Srt X) (hY : Srt Y) {s e : Nat} (hs : s ≤ X.length) (he : e ≤ Y.length) (h : s = 0 ∨ e = Y.length ∨ ¬ ltE (Y.getD e E0) (X.getD (s - 1) E0)) :
    ∀ x ∈ X.take s, ∀ y ∈ Y.drop e, ¬ ltE y x := by
  intro x hx y hy
  rcases h with rfl | rfl | h
  · simp at hx
  · simp at hy
  · by_cases h0 : s = 0
    · subst h0; simp at hx
    by_cases h1 : e = Y.length
    · subst h1; simp at hy
    have a := srt_take hX (by omega) hs x hx
    have b := srt_drop hY (by omega) y hy
    exact leE_trans (leE_trans a h) b

theorem moveR_eq (J : List TEv → Option (Unit × List TEv × Unit)) (x : TEv) (T : List TEv) : ∀ (Y P : List TEv) (i : Int), i = (P.length + Y.length + 1 : Nat) → P.length + Y.length + 1 ≤ 10000 → ∀ n, Y.length < n →
    iter (VF.slices_symMergeCmpFunc_impl_Event.step.l12 J) n (P ++ x :: (Y ++ T), i, (P.length : Int)) = J (P ++ (Y ++ x :: T)) := by
  intro Y
  induction Y with
  | nil =>
    intro P i hi hs n hn
    obtain ⟨n, rfl⟩ : ∃ p, n = p + 1 := ⟨n - 1, by simp at hn; omega⟩
    rw [iter_succ]
    unfold VF.slices_symMergeCmpFunc_impl_Event.step.l12
    have c1 : decide ((P.length : Int) < IntKind.wrap .i64 (i - 1)) = false := by rw [w64 (by omega) (by omega), hi]; simp
    simp only [c1, sel_false, List.nil_append]
  | cons y Y ih =>
    intro P i hi hs n hn
    obtain ⟨n, rfl⟩ : ∃ p, n = p + 1 := ⟨n - 1, by simp at hn; omega⟩
    simp only [List.length_cons] at hi hs hn
    have hI := ih (P ++ [y]) i (by simp; omega) (by simp; omega) n (by omega)
    rw [iter_succ]
    generalize iter (VF.slices_symMergeCmpFunc_impl_Event.step.l12 J) n = I at *
    unfold VF.slices_symMergeCmpFunc_impl_Event.step.l12
    have c1 : decide ((P.length : Int) < IntKind.wrap .i64 (i - 1)) = true := by rw [w64 (by omega) (by omega), hi]; simp; omega
    have e2 : IntKind.wrap .i64 ((P.length : Int) + 1) = ((P ++ [x]).length : Int) := by rw [w64 (by omega) (by omega)]; simp
    have e2' : IntKind.wrap .i64 ((P.length : Int) + 1) = ((P ++ [y]).length : Int) := by rw [w64 (by omega) (by omega)]; simp
    have d2 : P ++ x :: (y :: Y ++ T) = (P ++ [x]) ++ y :: (Y ++ T) := by simp
    have d3 : P ++ y :: (y :: Y ++ T) = (P ++ [y]) ++ y :: (Y ++ T) := by simp
    simp only [c1, sel_true, etaE]
    rw [inb_at d2 e2, inb_at rfl rfl, rdL_at d2 e2, rdL_at rfl rfl, wrL_at (y := y) rfl rfl, inb_at d3 e2', wrL_at (y := x) d3 e2', e2']
    simp only [grd_true]
    rw [hI]
    simp

theorem moveL_eq (J : List TEv → Option (Unit × List TEv × Unit)) (x : TEv) (P : List TEv) : ∀ (Y T : List TEv) (i : Int), i = (P.length : Int) → P.length + Y.length + 1 ≤ 10000 → ∀ n, Y.length < n →
    iter (VF.slices_symMergeCmpFunc_impl_Event.step.l7 J) n (P ++ (Y ++ x :: T), i, ((P.length + Y.length : Nat) : Int)) = J (P ++ x :: (Y ++ T)) := by
  intro Y
  induction Y using snoc_ind with
  | h0 =>
    intro T i hi hs n hn
    obtain ⟨n, rfl⟩ : ∃ p, n = p + 1 := ⟨n - 1, by simp at hn; omega⟩
    rw [iter_succ]
    unfold VF.slices_symMergeCmpFunc_impl_Event.step.l7
    have c1 : decide (i < ((P.length + ([] : List TEv).length : Nat) : Int)) = false := by simp; omega
    simp only [c1, sel_false, List.nil_append]
  | h1 Y y ih =>
    intro T i hi hs n hn
    obtain ⟨n, rfl⟩ : ∃ p, n = p + 1 := ⟨n - 1, by simp at hn; omega⟩
    simp only [List.length_append, List.length_cons, List.length_nil] at hs hn
    have hI := ih (y :: T) i hi (by omega) n (by omega)
    rw [iter_succ]
    generalize iter (VF.slices_symMergeCmpFunc_impl_Event.step.l7 J) n = I at *
    unfold VF.slices_symMergeCmpFunc_impl_Event.step.l7
    have c1 : decide (i < ((P.length + (Y ++ [y]).length : Nat) : Int)) = true := by simp; omega
    have e1 : ((P.length + (Y ++ [y]).length : Nat) : Int) = ((P ++ (Y ++ [y])).length : Int) := by simp
    have e2 : IntKind.wrap .i64 (((P.length + (Y ++ [y]).length : Nat) : Int) - 1) = ((P ++ Y).length : Int) := by rw [w64 (by simp; omega) (by simp; omega)]; simp; omega
    have d1 : P ++ (Y ++ [y] ++ x :: T) = (P ++ (Y ++ [y])) ++ x :: T := by simp
    have d2 : P ++ (Y ++ [y] ++ x :: T) = (P ++ Y) ++ y :: x :: T := by simp
    have d3 : P ++ (Y ++ [y]) ++ y :: T = (P ++ Y) ++ y :: y :: T := by simp
    simp only [c1, sel_true, etaE]
    rw [inb_at d1 e1, inb_at d2 e2, rdL_at d1 e1, rdL_at d2 e2]
    rw [wrL_at (y := y) d1 e1, inb_at d3 e2, wrL_at (y := x) d3 e2, e2]
    simp only [grd_true]
    rw [show (P ++ Y ++ x :: y :: T) = P ++ (Y ++ x :: y :: T) by simp, show ((P ++ Y).length : Int) = ((P.length + Y.length : Nat) : Int) by simp, hI]
    simp

theorem srt_take' {L : List TEv} (h : Srt L) (t : Nat) : Srt (L.take t) := h.sublist (List.take_sublist _ _)
theorem srt_drop' {L : List TEv} (h : Srt L) (t : Nat) : Srt (L.drop t) := h.sublist (List.drop_sublist _ _)
theorem srt_app {A B : List TEv} (ha : Srt A) (hb : Srt B) (h : ∀ x ∈ A, ∀ y ∈ B, ¬ ltE y x) : Srt (A ++ B) := List.pairwise_append.2 ⟨ha, hb, h⟩

/-- One event, into those behind it. -/
theorem one_left {k : Nat} (hk : 1000 < k) {P Y S : List TEv} {x : TEv} {a m b : Int} (hy : Srt Y) (ha : a = P.length) (hm : m = (P.length + 1 : Nat)) (hb : b = (P.length + 1 + Y.length : Nat)) (hs : P.length + 1 + Y.length ≤ 1000) :
    ∃ Z, iter (VF.slices_symMergeCmpFunc_impl_Event.step.l14 k a (VF.slices_symMergeCmpFunc_impl_Event.step.j13 k a)) k (P ++ ([x] ++ (Y ++ S)), m, b) = some ((), P ++ (Z ++ S), ()) ∧ Z.Perm ([x] ++ Y) ∧ Srt Z := by
  have hd : P ++ ([x] ++ (Y ++ S)) = (P ++ [x]) ++ (Y ++ S) := by simp
  obtain ⟨i, h1, h2, h3, h4, h5⟩ := bin_eq (s := VF.slices_symMergeCmpFunc_impl_Event.step.l14 k a (VF.slices_symMergeCmpFunc_impl_Event.step.j13 k a))
    (fun i j => (P ++ ([x] ++ (Y ++ S)), (i : Int), (j : Int))) (fun c => decide (ltE (Y.getD (c - (P.length + 1)) E0) x))
    (fun i => VF.slices_symMergeCmpFunc_impl_Event.step.j13 k a (P ++ ([x] ++ (Y ++ S)), (i : Int))) (P.length + 1) (P.length + 1 + Y.length)
    (by
      intro ih i j hi hij hj
      unfold VF.slices_symMergeCmpFunc_impl_Event.step.l14
      have c1 : decide ((i : Int) < (j : Int)) = true := by simp; omega
      simp only [c1, sel_true, etaE]
      rw [half_eq (by omega) (by omega)]
      have e1 : ((i : Int) + (j : Int)) / 2 = ((i + j) / 2 : Nat) := by omega
      have e3 : ((i : Int) + (j : Int)) / 2 = ((P ++ [x]).length + ((i + j) / 2 - (P.length + 1)) : Nat) := by simp; omega
      rw [inb_seg hd e3 (by omega), rdL_seg (z := E0) hd e3 (by omega), inb_at (pre := P) (by rfl) ha, rdL_at (pre := P) (by rfl) ha, compareE_eq (by omega)]
      simp only [grd_true, bnd_some', sgE_neg, sel_if]
      rw [w64 (by omega) (by omega), e1]
      rfl)
    (by
      intro ih i h1 h2
      unfold VF.slices_symMergeCmpFunc_impl_Event.step.l14
      simp only [Int.lt_irrefl, decide_false, sel_false])
    (by omega) (k := k) (by omega)
  have hp : ∀ u v : TEv, ltE v x → ¬ ltE v u → ltE u x := by
    intro u v h h'
    by_cases q : ltE u v
    · exact ltE_trans q h
    · rw [ltE_tri q h']; exact h
  have g1 : ∀ y ∈ Y.take (i - (P.length + 1)), ltE y x := by
    intro y hy'
    rcases h4 with h4 | h4
    · rw [h4] at hy'; simp at hy'
    · by_cases h0 : i = P.length + 1
      · rw [h0] at hy'; simp at hy'
      have := srt_take hy (t := i - (P.length + 1)) (by omega) (by omega) y hy'
      rw [show i - (P.length + 1) - 1 = i - 1 - (P.length + 1) by omega] at this
      exact hp _ _ (by simpa using h4) this
  have g2 : ∀ y ∈ Y.drop (i - (P.length + 1)), ¬ ltE y x := by
    intro y hy'
    rcases h5 with h5 | h5
    · rw [h5] at hy'; simp at hy'
    · by_cases h0 : i = P.length + 1 + Y.length
      · rw [h0] at hy'; simp at hy'
      have := srt_drop hy (t := i - (P.length + 1)) (by omega) y hy'
      intro q
      have h5' : ¬ ltE (Y.getD (i - (P.length + 1)) E0) x := by simpa using h5
      exact h5' (hp _ _ q this)
  refine ⟨Y.take (i - (P.length + 1)) ++ x :: Y.drop (i - (P.length + 1)), ?_, ?_, ?_⟩
  · rw [hm, hb, h3]
    unfold VF.slices_symMergeCmpFunc_impl_Event.step.j13
    simp only [join_eq]
    have := moveR_eq VF.slices_symMergeCmpFunc_impl_Event.step.j11 x (Y.drop (i - (P.length + 1)) ++ S) (Y.take (i - (P.length + 1))) P (i : Int) (by simp; omega) (by simp; omega) k (by simp; omega)
    rw [← List.append_assoc, List.take_append_drop] at this
    rw [ha]
    simp only [List.singleton_append]
    rw [this]
    simp [VF.slices_symMergeCmpFunc_impl_Event.step.j11]
  · refine List.perm_middle.trans ?_
    rw [List.take_append_drop]
    exact List.Perm.refl _
  · refine srt_app (srt_take' hy _) (List.pairwise_cons.2 ⟨g2, srt_drop' hy _⟩) ?_
    intro u hu v hv
    rcases List.mem_cons.1 hv with rfl | hv
    · exact ltE_asymm (g1 u hu)
    · intro q
      exact g2 v hv (ltE_trans q (g1 u hu))

/-- One event, into those ahead of it. -/
theorem one_right {k : Nat} (hk : 1000 < k) {P Y S : List TEv} {x : TEv} {a m b : Int} (hy : Srt Y) (ha : a = P.length) (hm : m = (P.length + Y.length : Nat)) (hs : P.length + Y.length + 1 ≤ 1000) :
    ∃ Z, iter (VF.slices_symMergeCmpFunc_impl_Event.step.l9 k m (VF.slices_symMergeCmpFunc_impl_Event.step.j8 k m)) k (P ++ (Y ++ ([x] ++ S)), a, m) = some ((), P ++ (Z ++ S), ()) ∧ Z.Perm (Y ++ [x]) ∧ Srt Z := by
  have hd : P ++ (Y ++ ([x] ++ S)) = (P ++ Y) ++ x :: S := by simp
  obtain ⟨i, h1, h2, h3, h4, h5⟩ := bin_eq (s := VF.slices_symMergeCmpFunc_impl_Event.step.l9 k m (VF.slices_symMergeCmpFunc_impl_Event.step.j8 k m))
    (fun i j => (P ++ (Y ++ ([x] ++ S)), (i : Int), (j : Int))) (fun c => !decide (ltE x (Y.getD (c - P.length) E0)))
    (fun i => VF.slices_symMergeCmpFunc_impl_Event.step.j8 k m (P ++ (Y ++ ([x] ++ S)), (i : Int))) (P.length) (P.length + Y.length)
    (by
      intro ih i j hi hij hj
      unfold VF.slices_symMergeCmpFunc_impl_Event.step.l9
      have c1 : decide ((i : Int) < (j : Int)) = true := by simp; omega
      simp only [c1, sel_true, etaE]
      rw [half_eq (by omega) (by omega)]
      have e1 : ((i : Int) + (j : Int)) / 2 = ((i + j) / 2 : Nat) := by omega
      have e3 : ((i : Int) + (j : Int)) / 2 = (P.length + ((i + j) / 2 - P.length) : Nat) := by omega
      rw [inb_seg rfl e3 (by omega), rdL_seg (z := E0) rfl e3 (by omega), inb_at hd (by rw [hm]; simp), rdL_at hd (by rw [hm]; simp), compareE_eq (by omega)]
      simp only [grd_true, bnd_some', sgE_neg, sel_if]
      rw [w64 (by omega) (by omega), e1]
      rfl)
    (by
      intro ih i h1 h2
      unfold VF.slices_symMergeCmpFunc_impl_Event.step.l9
      simp only [Int.lt_irrefl, decide_false, sel_false])
    (by omega) (k := k) (by omega)
  have g1 : ∀ y ∈ Y.take (i - P.length), ¬ ltE x y := by
    intro y hy'
    rcases h4 with h4 | h4
    · rw [h4] at hy'; simp at hy'
    · by_cases h0 : i = P.length
      · rw [h0] at hy'; simp at hy'
      have := srt_take hy (t := i - P.length) (by omega) (by omega) y hy'
      rw [show i - P.length - 1 = i - 1 - P.length by omega] at this
      have h4' : ¬ ltE x (Y.getD (i - 1 - P.length) E0) := by simpa using h4
      exact leE_trans this h4'
  have g2 : ∀ y ∈ Y.drop (i - P.length), ltE x y := by
    intro y hy'
    rcases h5 with h5 | h5
    · rw [h5] at hy'; simp at hy'
    · by_cases h0 : i = P.length + Y.length
      · rw [h0] at hy'; simp at hy'
      have := srt_drop hy (t := i - P.length) (by omega) y hy'
      have h5' : ltE x (Y.getD (i - P.length) E0) := by simpa using h5
      by_cases q : ltE (Y.getD (i - P.length) E0) y
      · exact ltE_trans h5' q
      · rw [ltE_tri this q]; exact h5'
  refine ⟨Y.take (i - P.length) ++ x :: Y.drop (i - P.length), ?_, ?_, ?_⟩
  · rw [hm] at h3 ⊢
    rw [ha, h3]
    unfold VF.slices_symMergeCmpFunc_impl_Event.step.j8
    simp only [join_eq]
    have := moveL_eq VF.slices_symMergeCmpFunc_impl_Event.step.j6 x (P ++ Y.take (i - P.length)) (Y.drop (i - P.length)) S (i : Int) (by simp; omega) (by simp; omega) k (by simp; omega)
    rw [List.append_assoc, ← List.append_assoc (Y.take _), List.take_append_drop] at this
    rw [show (((P ++ Y.take (i - P.length)).length + (Y.drop (i - P.length)).length : Nat) : Int) = ((P.length + Y.length : Nat) : Int) by simp; omega] at this
    simp only [List.singleton_append]
    rw [this]
    simp [VF.slices_symMergeCmpFunc_impl_Event.step.j6]
  · refine List.perm_middle.trans ?_
    rw [List.take_append_drop]
    exact (List.perm_append_comm (l₁ := Y) (l₂ := [x])).symm
  · refine srt_app (srt_take' hy _) (List.pairwise_cons.2 ⟨fun y hy => ltE_asymm (g2 y hy), srt_drop' hy _⟩) ?_
    intro u hu v hv
    rcases List.mem_cons.1 hv with rfl | hv
    · exact g1 u hu
    · intro q
      exact g1 u hu (ltE_trans (g2 v hv) q)
end VM
