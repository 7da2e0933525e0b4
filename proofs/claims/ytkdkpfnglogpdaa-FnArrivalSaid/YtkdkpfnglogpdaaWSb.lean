/- Swapping, turning and inserting in a list of events. -/
import Derived.Test.YtkdkpfnglogpdaaWSa
set_option linter.unusedVariables false
set_option linter.unusedSimpArgs false
namespace VM
open Go

theorem etaE (r : TEv) : (r.1, r.2.1, r.2.2.1, r.2.2.2.1, r.2.2.2.2.1, r.2.2.2.2.2.1, r.2.2.2.2.2.2.1, ()) = r := rfl

theorem half_eq {x : Int} (h0 : 0 ≤ x) (h1 : x ≤ 1000000) : IntKind.wrap .i64 (shrI .u64 (IntKind.wrap .u64 (IntKind.wrap .i64 x)) 1) = x / 2 := by
  rw [w64 (x := x) (by omega) (by omega)]
  have : IntKind.wrap .u64 x = x := by rw [IntKind.wrap_u64]; omega
  rw [this]
  have e : shrI .u64 x 1 = x / 2 := by
    simp [shrI, IntKind.wrap, IntKind.signed, IntKind.bits, Int.shiftRight_eq_div_pow]
    exact Int.fdiv_eq_ediv_of_nonneg _ (by decide)
  rw [e, w64 (by omega) (by omega)]

theorem swapRange_eq {k : Nat} {P U M V S : List TEv} {a b n : Int} (ha : a = P.length) (hb : b = (P.length + U.length + M.length : Nat)) (hn : n = U.length) (hv : V.length = U.length) (hs : P.length + U.length + M.length + U.length ≤ 10000) (hk : U.length < k) :
    VF.slices_swapRangeCmpFunc_impl_Event k (P ++ (U ++ (M ++ (V ++ S)))) a b n = some ((), P ++ (V ++ (M ++ (U ++ S))), ()) := by
  unfold VF.slices_swapRangeCmpFunc_impl_Event
  have key : ∀ (U V P M : List TEv) (t : Nat), a + t = P.length → b + t = (P.length + U.length + M.length : Nat) → n = (t + U.length : Nat) → V.length = U.length → P.length + U.length + M.length + U.length ≤ 10000 → t ≤ P.length → ∀ m, U.length < m → 
      iter (VF.slices_swapRangeCmpFunc_impl_Event.l0 a b n) m (P ++ (U ++ (M ++ (V ++ S))), (t : Int)) = some ((), P ++ (V ++ (M ++ (U ++ S))), ()) := by
    intro U
    induction U with
    | nil =>
      intro V P M t ha hb hn hv hs ht m hm
      obtain ⟨m, rfl⟩ : ∃ q, m = q + 1 := ⟨m - 1, by simp at hm; omega⟩
      have : V = [] := by simpa using hv
      subst this
      rw [iter_succ]
      have hn' : n = (t : Int) := by simpa using hn
      subst hn'
      simp [VF.slices_swapRangeCmpFunc_impl_Event.l0]
    | cons u U ih =>
      intro V P M t ha hb hn hv hs ht m hm
      obtain ⟨m, rfl⟩ : ∃ q, m = q + 1 := ⟨m - 1, by simp at hm; omega⟩
      cases V with
      | nil => simp at hv
      | cons v V =>
        simp only [List.length_cons] at hb hn hv hs hm
        have hI := ih V (P ++ [v]) (M ++ [u]) (t + 1) (by simp; omega) (by simp; omega) (by omega) (by omega) (by simp; omega) (by simp; omega) m (by omega)
        rw [iter_succ]
        generalize iter (VF.slices_swapRangeCmpFunc_impl_Event.l0 a b n) m = I at *
        unfold VF.slices_swapRangeCmpFunc_impl_Event.l0
        have c1 : decide ((t : Int) < n) = true := by simp; omega
        simp only [c1, sel_true, etaE]
        have e1 : IntKind.wrap .i64 (a + (t : Int)) = (P.length : Int) := by rw [w64 (by omega) (by omega)]; omega
        have e2 : IntKind.wrap .i64 (b + (t : Int)) = ((P ++ u :: (U ++ M)).length : Int) := by rw [w64 (by omega) (by omega)]; simp; omega
        have e2' : IntKind.wrap .i64 (b + (t : Int)) = ((P ++ v :: (U ++ M)).length : Int) := by rw [w64 (by omega) (by omega)]; simp; omega
        have d1 : P ++ (u :: U ++ (M ++ (v :: V ++ S))) = P ++ u :: (U ++ (M ++ v :: (V ++ S))) := by simp
        have d2 : P ++ u :: (U ++ (M ++ v :: (V ++ S))) = (P ++ u :: (U ++ M)) ++ v :: (V ++ S) := by simp
        have d3 : P ++ v :: (U ++ (M ++ v :: (V ++ S))) = (P ++ v :: (U ++ M)) ++ v :: (V ++ S) := by simp
        rw [d1, inb_at d2 e2, inb_at rfl e1, rdL_at d2 e2, rdL_at rfl e1]
        rw [wrL_at (y := v) rfl e1, inb_at d3 e2', wrL_at (y := u) d3 e2', w64 (by omega) (by omega)]
        simp only [grd_true]
        rw [show (P ++ v :: (U ++ M) ++ u :: (V ++ S)) = (P ++ [v]) ++ (U ++ ((M ++ [u]) ++ (V ++ S))) by simp]
        rw [show ((t : Int) + 1) = ((t + 1 : Nat) : Int) by omega, hI]
        simp
  exact key U V P M 0 (by omega) (by omega) (by omega) hv hs (by omega) k hk

theorem rotate_eq {k : Nat} {P X Y S : List TEv} {a m b : Int} (ha : a = P.length) (hm : m = (P.length + X.length : Nat)) (hb : b = (P.length + X.length + Y.length : Nat)) (hs : P.length + X.length + Y.length ≤ 1000) (hk : 1000 < k) (hx : 0 < X.length) (hy : 0 < Y.length) :
    VF.slices_rotateCmpFunc_impl_Event k (P ++ (X ++ (Y ++ S))) a m b = some ((), P ++ (Y ++ (X ++ S)), ()) := by
  unfold VF.slices_rotateCmpFunc_impl_Event
  simp only [join_eq]
  rw [show IntKind.wrap .i64 (m - a) = (X.length : Int) by rw [w64 (by omega) (by omega)]; omega, show IntKind.wrap .i64 (b - m) = (Y.length : Int) by rw [w64 (by omega) (by omega)]; omega]
  have key : ∀ (n : Nat) (P X Y S : List TEv), X.length + Y.length ≤ n → m = (P.length + X.length : Nat) → P.length + X.length + Y.length ≤ 1000 → 0 < X.length → 0 < Y.length → ∀ q, n < q →
      iter (VF.slices_rotateCmpFunc_impl_Event.l1 k m (VF.slices_rotateCmpFunc_impl_Event.j0 k m)) q (P ++ (X ++ (Y ++ S)), (X.length : Int), (Y.length : Int)) = some ((), P ++ (Y ++ (X ++ S)), ()) := by
    intro n
    induction n with
    | zero => intro P X Y S hn; intros; omega
    | succ n ih =>
      intro P X Y S hn hm hs hx hy q hq
      obtain ⟨q, rfl⟩ : ∃ p, q = p + 1 := ⟨q - 1, by omega⟩
      have ih' := fun P X Y S h1 h2 h3 h4 h5 => ih P X Y S h1 h2 h3 h4 h5 q (by omega)
      rw [iter_succ]
      generalize iter (VF.slices_rotateCmpFunc_impl_Event.l1 k m (VF.slices_rotateCmpFunc_impl_Event.j0 k m)) q = I at *
      unfold VF.slices_rotateCmpFunc_impl_Event.l1
      simp only [VF.slices_rotateCmpFunc_impl_Event.j0]
      have e1 : IntKind.wrap .i64 (m - (X.length : Int)) = (P.length : Int) := by rw [w64 (by omega) (by omega)]; omega
      rcases Nat.lt_trichotomy X.length Y.length with h | h | h
      · have c1 : decide ((X.length : Int) = (Y.length : Int)) = false := by simp; omega
        have c2 : decide ((Y.length : Int) < (X.length : Int)) = false := by simp; omega
        simp only [c1, c2, Bool.not_false, sel_true, sel_false]
        rw [e1]
        -- Y = V1 ++ V2
        have e2 : IntKind.wrap .i64 (IntKind.wrap .i64 (m + (Y.length : Int)) - (X.length : Int)) = ((P.length + X.length + (Y.take (Y.length - X.length)).length : Nat) : Int) := by
          rw [w64 (x := m + _) (by omega) (by omega), w64 (by omega) (by omega)]; simp; omega
        rw [e2]
        have hY : P ++ (X ++ (Y ++ S)) = P ++ (X ++ (Y.take (Y.length - X.length) ++ (Y.drop (Y.length - X.length) ++ S))) := by
          rw [← List.append_assoc (Y.take _), List.take_append_drop]
        rw [hY, swapRange_eq rfl rfl rfl (by simp; omega) (by simp; omega) (by omega)]
        simp only [bnd_some']
        have := ih' P (Y.drop (Y.length - X.length)) (Y.take (Y.length - X.length)) (X ++ S) (by simp; omega) (by simp; omega) (by simp; omega) (by simp; omega) (by simp; omega)
        rw [w64 (x := (Y.length : Int) - X.length) (by omega) (by omega)]
        rw [show ((Y.drop (Y.length - X.length)).length : Int) = (X.length : Int) by simp; omega, show ((Y.take (Y.length - X.length)).length : Int) = (Y.length : Int) - X.length by simp; omega] at this
        rw [this, ← List.append_assoc (Y.take _), List.take_append_drop]
      · have c1 : decide ((X.length : Int) = (Y.length : Int)) = true := by simp; omega
        simp only [c1, Bool.not_true, sel_false]
        rw [e1]
        have := swapRange_eq (k := k) (P := P) (U := X) (M := []) (V := Y) (S := S) rfl (b := m) (by simpa using hm) rfl h.symm (by simp; omega) (by omega)
        simp only [List.nil_append] at this
        rw [this]
        rfl
      · have c1 : decide ((X.length : Int) = (Y.length : Int)) = false := by simp; omega
        have c2 : decide ((Y.length : Int) < (X.length : Int)) = true := by simp; omega
        simp only [c1, c2, Bool.not_false, sel_true, sel_false]
        rw [e1]
        have hX : P ++ (X ++ (Y ++ S)) = P ++ (X.take Y.length ++ (X.drop Y.length ++ (Y ++ S))) := by
          rw [← List.append_assoc (X.take _), List.take_append_drop]
        rw [hX, swapRange_eq (n := (Y.length : Int)) (b := m) rfl (by rw [hm]; simp; omega) (by simp; omega) (by simp; omega) (by simp; omega) (by simp; omega)]
        simp only [bnd_some']
        have := ih' (P ++ Y) (X.drop Y.length) (X.take Y.length) S (by simp; omega) (by simp; omega) (by simp; omega) (by simp; omega) (by simp; omega)
        rw [w64 (x := (X.length : Int) - Y.length) (by omega) (by omega)]
        rw [show ((X.drop Y.length).length : Int) = (X.length : Int) - Y.length by simp; omega, show ((X.take Y.length).length : Int) = (Y.length : Int) by simp; omega] at this
        rw [List.append_assoc] at this
        rw [this, ← List.append_assoc (X.take _), List.take_append_drop, List.append_assoc]
  exact key (X.length + Y.length) P X Y S (Nat.le_refl _) hm hs hx hy k (by omega)

/-- Sorted, and the greater ones not in front of the lesser. -/
def Srt (l : List TEv) : Prop := l.Pairwise fun x y => ¬ ltE y x

theorem sgE_neg {a b : TEv} : decide (sgE a b < 0) = decide (ltE a b) := by
  unfold sgE
  by_cases h : ltE a b
  · simp [h]
  · by_cases h2 : ltE b a <;> simp [h, h2]

/-- The inner loop of the insertion sort. -/
theorem insert_eq {k : Nat} (hk : 1000 < k) {P : List TEv} {a : Int} (ha : a = P.length) (R : List TEv × Int → Option (Unit × List TEv × Unit)) (x : TEv) (i : Int) :
    ∀ (Q T : List TEv), Srt Q → P.length + Q.length + 1 ≤ 1000 → ∀ n, Q.length < n → ∃ Q1 Q2, Q = Q1 ++ Q2 ∧ (∀ y ∈ Q2, ltE x y) ∧ (∀ y ∈ Q1, ¬ ltE x y) ∧
      iter (VF.slices_insertionSortCmpFunc_impl_Event.l1 k a R) n (P ++ (Q ++ x :: T), i, ((P.length + Q.length : Nat) : Int)) = R (P ++ (Q1 ++ x :: (Q2 ++ T)), i) := by
  intro Q
  induction Q using snoc_ind with
  | h0 =>
    intro T hq hs n hn
    obtain ⟨n, rfl⟩ : ∃ p, n = p + 1 := ⟨n - 1, by simp at hn; omega⟩
    refine ⟨[], [], rfl, by simp, by simp, ?_⟩
    rw [iter_succ]
    subst ha
    simp [VF.slices_insertionSortCmpFunc_impl_Event.l1]
  | h1 Q y ih =>
    intro T hq hs n hn
    obtain ⟨n, rfl⟩ : ∃ p, n = p + 1 := ⟨n - 1, by simp at hn; omega⟩
    simp only [List.length_append, List.length_cons, List.length_nil] at hs hn
    have hq' : Srt Q := (List.pairwise_append.1 hq).1
    have hy : ∀ z ∈ Q, ¬ ltE y z := fun z hz => (List.pairwise_append.1 hq).2.2 z hz y (by simp)
    obtain ⟨Q1, Q2, e, g1, g2, hI⟩ := ih (y :: T) hq' (by omega) n (by omega)
    rw [iter_succ]
    generalize iter (VF.slices_insertionSortCmpFunc_impl_Event.l1 k a R) n = I at *
    have c1 : decide (a < ((P.length + (Q ++ [y]).length : Nat) : Int)) = true := by simp; omega
    have e1 : ((P.length + (Q ++ [y]).length : Nat) : Int) = ((P ++ (Q ++ [y])).length : Int) := by simp
    have e2 : IntKind.wrap .i64 (((P.length + (Q ++ [y]).length : Nat) : Int) - 1) = ((P ++ Q).length : Int) := by rw [w64 (by simp; omega) (by simp; omega)]; simp; omega
    have d1 : P ++ (Q ++ [y] ++ x :: T) = (P ++ (Q ++ [y])) ++ x :: T := by simp
    have d2 : P ++ (Q ++ [y] ++ x :: T) = (P ++ Q) ++ y :: x :: T := by simp
    have d3 : P ++ (Q ++ [y]) ++ y :: T = (P ++ Q) ++ y :: y :: T := by simp
    by_cases hlt : ltE x y
    · refine ⟨Q1, Q2 ++ [y], by rw [e]; simp, ?_, g2, ?_⟩
      · intro z hz
        rcases List.mem_append.1 hz with hz | hz
        · exact g1 z hz
        · simp at hz; subst hz; exact hlt
      · unfold VF.slices_insertionSortCmpFunc_impl_Event.l1
        simp only [c1, sel_true, etaE]
        rw [inb_at d1 e1, inb_at d2 e2, rdL_at d1 e1, rdL_at d2 e2, compareE_eq (by omega)]
        simp only [grd_true, bnd_some', sgE_neg, hlt, decide_true, sel_true]
        rw [wrL_at (y := y) d1 e1, inb_at d3 e2, wrL_at (y := x) d3 e2, e2]
        simp only [grd_true]
        rw [show (P ++ Q ++ x :: y :: T) = P ++ (Q ++ x :: y :: T) by simp, show ((P ++ Q).length : Int) = ((P.length + Q.length : Nat) : Int) by simp, hI]
        simp
    · refine ⟨Q ++ [y], [], by simp, by simp, ?_, ?_⟩
      · intro z hz
        rcases List.mem_append.1 hz with hz | hz
        · exact leE_trans (hy z hz) hlt |> fun h => by
            intro q
            exact absurd q (by
              intro q
              by_cases hyz : ltE z y
              · exact hlt (ltE_trans q hyz)
              · exact hlt (by have := ltE_tri hyz (hy z hz); subst this; exact q))
        · simp at hz; subst hz; exact hlt
      · unfold VF.slices_insertionSortCmpFunc_impl_Event.l1
        simp only [c1, sel_true, etaE]
        rw [inb_at d1 e1, inb_at d2 e2, rdL_at d1 e1, rdL_at d2 e2, compareE_eq (by omega)]
        simp only [grd_true, bnd_some', sgE_neg, hlt, decide_false, sel_false]
        simp

theorem insertion_eq {k : Nat} (hk : 1000 < k) {P X S : List TEv} {a b : Int} (ha : a = P.length) (hb : b = (P.length + X.length : Nat)) (hs : P.length + X.length ≤ 1000) :
    ∃ Z, VF.slices_insertionSortCmpFunc_impl_Event k (P ++ (X ++ S)) a b = some ((), P ++ (Z ++ S), ()) ∧ Z.Perm X ∧ Srt Z := by
  unfold VF.slices_insertionSortCmpFunc_impl_Event
  have key : ∀ (R Q : List TEv), Srt Q → P.length + Q.length + R.length ≤ 1000 → b = (P.length + Q.length + R.length : Nat) → ∀ n, R.length < n → 
      ∃ Z, iter (VF.slices_insertionSortCmpFunc_impl_Event.l2 k a b) n (P ++ (Q ++ (R ++ S)), ((P.length + Q.length : Nat) : Int)) = some ((), P ++ (Z ++ S), ()) ∧ Z.Perm (Q ++ R) ∧ Srt Z := by
    intro R
    induction R with
    | nil =>
      intro Q hq hs hb n hn
      obtain ⟨n, rfl⟩ : ∃ p, n = p + 1 := ⟨n - 1, by simp at hn; omega⟩
      refine ⟨Q, ?_, by simp, hq⟩
      rw [iter_succ]
      simp only [List.length_nil, Nat.add_zero] at hb
      subst hb
      simp [VF.slices_insertionSortCmpFunc_impl_Event.l2]
    | cons x R ih =>
      intro Q hq hs hb n hn
      obtain ⟨n, rfl⟩ : ∃ p, n = p + 1 := ⟨n - 1, by simp at hn; omega⟩
      simp only [List.length_cons] at hs hb hn
      rw [iter_succ]
      have hIH := fun Q h1 h2 h3 => ih Q h1 h2 h3 n (by omega)
      generalize iter (VF.slices_insertionSortCmpFunc_impl_Event.l2 k a b) n = I at *
      unfold VF.slices_insertionSortCmpFunc_impl_Event.l2
      have c1 : decide (((P.length + Q.length : Nat) : Int) < b) = true := by simp; omega
      simp only [c1, sel_true, join_eq]
      obtain ⟨Q1, Q2, e, g1, g2, hI⟩ := insert_eq hk ha (VF.slices_insertionSortCmpFunc_impl_Event.j0 I) x ((P.length + Q.length : Nat) : Int) Q (R ++ S) hq (by omega) k (by omega)
      rw [show P ++ (Q ++ (x :: R ++ S)) = P ++ (Q ++ x :: (R ++ S)) by simp, hI]
      unfold VF.slices_insertionSortCmpFunc_impl_Event.j0
      have hq1 : Srt (Q1 ++ x :: Q2) := by
        rw [e] at hq
        have h1 := List.pairwise_append.1 hq
        refine List.pairwise_append.2 ⟨h1.1, ?_, ?_⟩
        · refine List.pairwise_cons.2 ⟨fun y hy => ltE_asymm (g1 y hy), h1.2.1⟩
        · intro y hy z hz
          rcases List.mem_cons.1 hz with rfl | hz
          · exact g2 y hy
          · exact h1.2.2 y hy z hz
      have hlen : (Q1 ++ x :: Q2).length = Q.length + 1 := by rw [e]; simp; omega
      obtain ⟨Z, hz, hp, hsz⟩ := hIH (Q1 ++ x :: Q2) hq1 (by omega) (by omega)
      refine ⟨Z, ?_, ?_, hsz⟩
      · rw [w64 (by omega) (by omega)]
        rw [show P ++ (Q1 ++ x :: (Q2 ++ (R ++ S))) = P ++ ((Q1 ++ x :: Q2) ++ (R ++ S)) by simp, show (((P.length + Q.length : Nat) : Int) + 1) = ((P.length + (Q1 ++ x :: Q2).length : Nat) : Int) by rw [hlen]; omega, hz]
      · refine hp.trans ?_
        rw [e]
        simp only [List.append_assoc, List.cons_append]
        exact List.Perm.append_left Q1 (List.perm_middle.symm)
  cases X with
  | nil =>
    refine ⟨[], ?_, by simp, by simp [Srt]⟩
    obtain ⟨k, rfl⟩ : ∃ p, k = p + 1 := ⟨k - 1, by omega⟩
    rw [iter_succ]
    simp only [List.length_nil, Nat.add_zero] at hb
    unfold VF.slices_insertionSortCmpFunc_impl_Event.l2
    have c1 : decide (IntKind.wrap .i64 (a + 1) < b) = false := by rw [w64 (by omega) (by omega)]; simp; omega
    simp only [c1, sel_false]
  | cons x R =>
    simp only [List.length_cons] at hb hs
    obtain ⟨Z, h1, h2, h3⟩ := key R [x] (by simp [Srt]) (by simp; omega) (by simp; omega) k (by omega)
    refine ⟨Z, ?_, by simpa using h2, h3⟩
    rw [← h1, w64 (by omega) (by omega), ha]
    simp
end VM
