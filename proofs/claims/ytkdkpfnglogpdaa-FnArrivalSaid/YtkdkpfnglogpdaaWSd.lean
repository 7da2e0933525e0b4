/- The merging of two sorted pieces of a list of events, in place; the stable sort. -/
import Derived.Test.YtkdkpfnglogpdaaWSc
set_option linter.unusedVariables false
set_option linter.unusedSimpArgs false
namespace VM
open Go

abbrev SM := Nat → List TEv → Int → Int → Int → Option (Unit × List TEv × Unit)
/-- Two sorted neighbours are merged. -/
def Mg (self : SM) (k n : Nat) : Prop := ∀ (P X Y S : List TEv) (a m b : Int), Srt X → Srt Y → 0 < X.length → 0 < Y.length → a = P.length → m = (P.length + X.length : Nat) → b = (P.length + X.length + Y.length : Nat) →
  P.length + X.length + Y.length ≤ 1000 → X.length + Y.length ≤ n → ∃ Z, self k (P ++ (X ++ (Y ++ S))) a m b = some ((), P ++ (Z ++ S), ()) ∧ Z.Perm (X ++ Y) ∧ Srt Z

theorem j0_eq {self : SM} {k n : Nat} (hM : Mg self k n) {P X Y S : List TEv} {mid e b : Int} (hX : Srt X) (hY : Srt Y) (hm : mid = P.length) (he : e = (P.length + X.length : Nat)) (hb : b = (P.length + X.length + Y.length : Nat)) (hs : P.length + X.length + Y.length ≤ 1000) (hn : X.length + Y.length ≤ n) :
    ∃ Z, VF.slices_symMergeCmpFunc_impl_Event.step.j0 self k b (P ++ (X ++ (Y ++ S)), mid, e) = some ((), P ++ (Z ++ S), ()) ∧ Z.Perm (X ++ Y) ∧ Srt Z := by
  unfold VF.slices_symMergeCmpFunc_impl_Event.step.j0
  by_cases hx : X.length = 0
  · have : X = [] := by simpa using hx
    subst this
    have c1 : decide (mid < e) = false := by simp; simp at he; omega
    simp only [c1, sel_false]
    exact ⟨Y, by simp, by simp, hY⟩
  by_cases hy : Y.length = 0
  · have : Y = [] := by simpa using hy
    subst this
    have c1 : decide (mid < e) = true := by simp; omega
    have c2 : decide (e < b) = false := by simp; simp at hb; omega
    simp only [c1, c2, sel_false, sel_true]
    exact ⟨X, by simp, by simp, hX⟩
  have c1 : decide (mid < e) = true := by simp; omega
  have c2 : decide (e < b) = true := by simp; omega
  simp only [c1, c2, sel_true]
  obtain ⟨Z, h1, h2, h3⟩ := hM P X Y S mid e b hX hY (by omega) (by omega) hm he hb hs hn
  rw [h1]
  exact ⟨Z, rfl, h2, h3⟩

theorem j1_eq {self : SM} {k n : Nat} (hM : Mg self k n) {P X1 Y1 X2 Y2 S : List TEv} {a st mid e b N : Int} (hX1 : Srt X1) (hY1 : Srt Y1) (hX2 : Srt X2) (hY2 : Srt Y2)
    (ha : a = P.length) (hst : st = (P.length + X1.length : Nat)) (hm : mid = (P.length + X1.length + Y1.length : Nat)) (he : e = (P.length + X1.length + Y1.length + X2.length : Nat)) (hb : b = (P.length + X1.length + Y1.length + X2.length + Y2.length : Nat))
    (hs : P.length + X1.length + Y1.length + X2.length + Y2.length ≤ 1000) (h1 : X1.length + Y1.length ≤ n) (h2 : X2.length + Y2.length ≤ n)
    (hc : ∀ x ∈ X1 ++ Y1, ∀ y ∈ X2 ++ Y2, ¬ ltE y x) :
    ∃ Z, VF.slices_symMergeCmpFunc_impl_Event.step.j1 self k a b (P ++ (X1 ++ (Y1 ++ (X2 ++ (Y2 ++ S)))), mid, st, e) = some ((), P ++ (Z ++ S), ()) ∧ Z.Perm (X1 ++ Y1 ++ (X2 ++ Y2)) ∧ Srt Z := by
  unfold VF.slices_symMergeCmpFunc_impl_Event.step.j1
  simp only [join_eq]
  have fin : ∀ Z1, Z1.Perm (X1 ++ Y1) → Srt Z1 → ∃ Z, VF.slices_symMergeCmpFunc_impl_Event.step.j0 self k b (P ++ (Z1 ++ (X2 ++ (Y2 ++ S))), mid, e) = some ((), P ++ (Z ++ S), ()) ∧ Z.Perm (X1 ++ Y1 ++ (X2 ++ Y2)) ∧ Srt Z := by
    intro Z1 hp hz
    have hl : Z1.length = X1.length + Y1.length := by rw [hp.length_eq]; simp
    obtain ⟨Z, g1, g2, g3⟩ := j0_eq hM (P := P ++ Z1) (X := X2) (Y := Y2) (S := S) (mid := mid) (e := e) (b := b) hX2 hY2 (by rw [hm]; simp; omega) (by rw [he]; simp; omega) (by rw [hb]; simp; omega) (by simp; omega) h2
    refine ⟨Z1 ++ Z, ?_, ?_, ?_⟩
    · rw [← List.append_assoc, g1]; simp
    · exact (List.Perm.append hp g2)
    · refine srt_app hz g3 ?_
      intro x hx y hy
      exact hc x (hp.mem_iff.1 hx) y (g2.mem_iff.1 hy)
  by_cases hx : X1.length = 0
  · have : X1 = [] := by simpa using hx
    subst this
    have c1 : decide (a < st) = false := by simp; simp at hst; omega
    simp only [c1, sel_false]
    exact fin Y1 (by simp) hY1
  by_cases hy : Y1.length = 0
  · have : Y1 = [] := by simpa using hy
    subst this
    have c1 : decide (a < st) = true := by simp; omega
    have c2 : decide (st < mid) = false := by simp; simp at hm; omega
    simp only [c1, c2, sel_true, sel_false]
    exact fin X1 (by simp) hX1
  have c1 : decide (a < st) = true := by simp; omega
  have c2 : decide (st < mid) = true := by simp; omega
  simp only [c1, c2, sel_true]
  obtain ⟨Z1, g1, g2, g3⟩ := hM P X1 Y1 (X2 ++ (Y2 ++ S)) a st mid hX1 hY1 (by omega) (by omega) ha hst hm (by omega) h1
  rw [g1]
  simp only [bnd_some']
  exact fin Z1 g2 g3

theorem j2_eq {self : SM} {k n : Nat} (hk : 1000 < k) (hM : Mg self k n) {P X Y S : List TEv} {a m b st mid N : Int} {s e : Nat} (hX : Srt X) (hY : Srt Y) (hsx : s ≤ X.length) (hey : e ≤ Y.length)
    (ha : a = P.length) (hm : m = (P.length + X.length : Nat)) (hb : b = (P.length + X.length + Y.length : Nat)) (hst : st = (P.length + s : Nat)) (hmid : mid = (P.length + s + e : Nat)) (hN : N - st = (P.length + X.length + e : Nat)) (hN0 : 0 ≤ N ∧ N ≤ 10000)
    (hs : P.length + X.length + Y.length ≤ 1000) (h1 : s + e ≤ n) (h2 : X.length - s + (Y.length - e) ≤ n)
    (hc1 : s = 0 ∨ e = Y.length ∨ ¬ ltE (Y.getD e E0) (X.getD (s - 1) E0)) (hc2 : e = 0 ∨ s = X.length ∨ ¬ ltE (X.getD s E0) (Y.getD (e - 1) E0)) :
    ∃ Z, VF.slices_symMergeCmpFunc_impl_Event.step.j2 self k a m b (P ++ (X ++ (Y ++ S)), mid, N, st) = some ((), P ++ (Z ++ S), ()) ∧ Z.Perm (X ++ Y) ∧ Srt Z := by
  unfold VF.slices_symMergeCmpFunc_impl_Event.step.j2
  simp only [join_eq]
  rw [w64 (x := N - st) (by omega) (by omega), hN]
  have hsplit : P ++ (X ++ (Y ++ S)) = (P ++ X.take s) ++ (X.drop s ++ (Y.take e ++ (Y.drop e ++ S))) := by
    rw [List.append_assoc P, ← List.append_assoc (X.take s), List.take_append_drop, ← List.append_assoc (Y.take e), List.take_append_drop]
  have fin : ∃ Z, VF.slices_symMergeCmpFunc_impl_Event.step.j1 self k a b (P ++ (X.take s ++ (Y.take e ++ (X.drop s ++ (Y.drop e ++ S)))), mid, st, ((P.length + X.length + e : Nat) : Int)) = some ((), P ++ (Z ++ S), ()) ∧ Z.Perm (X ++ Y) ∧ Srt Z := by
    obtain ⟨Z, g1, g2, g3⟩ := j1_eq (N := N) hM (P := P) (X1 := X.take s) (Y1 := Y.take e) (X2 := X.drop s) (Y2 := Y.drop e) (S := S) (a := a) (st := st) (mid := mid) (e := ((P.length + X.length + e : Nat) : Int)) (b := b)
      (srt_take' hX _) (srt_take' hY _) (srt_drop' hX _) (srt_drop' hY _) ha (by rw [hst]; simp; omega) (by rw [hmid]; simp; omega) (by simp; omega) (by rw [hb]; simp; omega) (by simp; omega) (by simp; omega) (by simp; omega) (by
        intro x hx y hy
        rcases List.mem_append.1 hx with hx | hx <;> rcases List.mem_append.1 hy with hy | hy
        · have := List.pairwise_append.1 (show Srt (X.take s ++ X.drop s) by rw [List.take_append_drop]; exact hX)
          exact this.2.2 x hx y hy
        · exact cross hX hY hsx hey hc1 x hx y hy
        · exact cross hY hX hey hsx hc2 x hx y hy
        · have := List.pairwise_append.1 (show Srt (Y.take e ++ Y.drop e) by rw [List.take_append_drop]; exact hY)
          exact this.2.2 x hx y hy)
    refine ⟨Z, g1, g2.trans ?_, g3⟩
    have : (X.take s ++ Y.take e ++ (X.drop s ++ Y.drop e)).Perm (X.take s ++ X.drop s ++ (Y.take e ++ Y.drop e)) := by
      rw [List.append_assoc, List.append_assoc, ← List.append_assoc (Y.take e), ← List.append_assoc (X.drop s)]
      exact List.Perm.append_left _ (List.Perm.append_right _ List.perm_append_comm)
    rw [List.take_append_drop, List.take_append_drop] at this
    exact this
  by_cases hx : (X.drop s).length = 0
  · have hx0 : X.drop s = [] := List.eq_nil_of_length_eq_zero hx
    have c1 : decide (st < m) = false := by simp at hx ⊢; omega
    simp only [c1, sel_false]
    rw [hsplit, hx0]
    rw [hx0] at fin
    simpa using fin
  by_cases hy : (Y.take e).length = 0
  · have hy0 : Y.take e = [] := List.eq_nil_of_length_eq_zero hy
    have c1 : decide (st < m) = true := by simp at hx ⊢; omega
    have c2 : decide (m < ((P.length + X.length + e : Nat) : Int)) = false := by
      rw [List.length_take] at hy; simp; omega
    simp only [c1, c2, sel_true, sel_false]
    rw [hsplit, hy0]
    rw [hy0] at fin
    simpa using fin
  have c1 : decide (st < m) = true := by simp at hx ⊢; omega
  have c2 : decide (m < ((P.length + X.length + e : Nat) : Int)) = true := by
    rw [List.length_take] at hy; simp; omega
  simp only [c1, c2, sel_true]
  have l1 : (P ++ X.take s).length = P.length + s := by simp; omega
  have l2 : (X.drop s).length = X.length - s := by simp
  have l3 : (Y.take e).length = e := by simp; omega
  rw [hsplit, rotate_eq (by rw [hst, l1]) (by rw [hm, l1, l2]; omega) (by rw [l1, l2, l3]; omega) (by rw [l1, l2, l3]; omega) hk (by omega) (by omega)]
  simp only [bnd_some']
  rw [List.append_assoc]
  exact fin

theorem j5_eq {self : SM} {k n : Nat} (hk : 1000 < k) (hM : Mg self k n) {P X Y S : List TEv} {a m b : Int} (hX : Srt X) (hY : Srt Y) (h2x : 2 ≤ X.length) (h2y : 2 ≤ Y.length)
    (ha : a = P.length) (hm : m = (P.length + X.length : Nat)) (hb : b = (P.length + X.length + Y.length : Nat)) (hs : P.length + X.length + Y.length ≤ 1000) (hn : X.length + Y.length ≤ n + 1) :
    ∃ Z, VF.slices_symMergeCmpFunc_impl_Event.step.j5 self k a m b (P ++ (X ++ (Y ++ S))) = some ((), P ++ (Z ++ S), ()) ∧ Z.Perm (X ++ Y) ∧ Srt Z := by
  unfold VF.slices_symMergeCmpFunc_impl_Event.step.j5
  simp only [join_eq]
  rw [half_eq (x := a + b) (by omega) (by omega)]
  obtain ⟨mid, hmid⟩ : ∃ mid : Nat, mid = (P.length + (P.length + X.length + Y.length)) / 2 := ⟨_, rfl⟩
  have e0 : (a + b) / 2 = (mid : Int) := by rw [ha, hb, hmid]; omega
  rw [e0, w64 (x := (mid : Int) + m) (by omega) (by omega)]
  rw [w64 (x := (mid : Int) + m - b) (by omega) (by omega)]
  -- the search
  have key : ∀ (lo hi : Nat), lo ≤ hi → P.length ≤ lo → mid + (P.length + X.length) ≤ lo + (P.length + X.length + Y.length) → hi ≤ mid → hi ≤ P.length + X.length → (lo = P.length ∨ mid + (P.length + X.length) = lo + (P.length + X.length + Y.length)) → (hi = mid ∨ hi = P.length + X.length) →
      ∃ Z, VF.slices_symMergeCmpFunc_impl_Event.step.j4 self k a m b (P ++ (X ++ (Y ++ S)), (mid : Int), (mid : Int) + m, (lo : Int), (hi : Int)) = some ((), P ++ (Z ++ S), ()) ∧ Z.Perm (X ++ Y) ∧ Srt Z := by
    intro lo hi hle hlo hlo2 hhi hhi2 hlo3 hhi3
    unfold VF.slices_symMergeCmpFunc_impl_Event.step.j4
    simp only [join_eq]
    rw [w64 (x := (mid : Int) + m - 1) (by omega) (by omega)]
    obtain ⟨i, h1, h2, h3, h4, h5⟩ := bin_eq (s := VF.slices_symMergeCmpFunc_impl_Event.step.l3 k (VF.slices_symMergeCmpFunc_impl_Event.step.j2 self k a m b))
      (fun i j => (P ++ (X ++ (Y ++ S)), (mid : Int), (mid : Int) + m, (i : Int), (j : Int), (mid : Int) + m - 1)) (fun c => !decide (ltE (Y.getD (mid - 1 - c) E0) (X.getD (c - P.length) E0)))
      (fun i => VF.slices_symMergeCmpFunc_impl_Event.step.j2 self k a m b (P ++ (X ++ (Y ++ S)), (mid : Int), (mid : Int) + m, (i : Int))) lo hi
      (by
        intro ih i j hi' hij hj
        unfold VF.slices_symMergeCmpFunc_impl_Event.step.l3
        have c1 : decide ((i : Int) < (j : Int)) = true := by simp; omega
        simp only [c1, sel_true, etaE]
        rw [half_eq (by omega) (by omega)]
        have e1 : ((i : Int) + (j : Int)) / 2 = ((i + j) / 2 : Nat) := by omega
        have e3 : ((i : Int) + (j : Int)) / 2 = (P.length + ((i + j) / 2 - P.length) : Nat) := by omega
        have e4 : IntKind.wrap .i64 ((mid : Int) + m - 1 - ((i : Int) + (j : Int)) / 2) = ((P ++ X).length + (mid - 1 - (i + j) / 2) : Nat) := by rw [w64 (by omega) (by omega)]; simp; omega
        have d4 : P ++ (X ++ (Y ++ S)) = (P ++ X) ++ (Y ++ S) := by simp
        rw [inb_seg d4 e4 (by omega), rdL_seg (z := E0) d4 e4 (by omega), inb_seg rfl e3 (by omega), rdL_seg (z := E0) rfl e3 (by omega), compareE_eq (by omega)]
        simp only [grd_true, bnd_some', sgE_neg, sel_if]
        rw [w64 (x := ((i : Int) + (j : Int)) / 2 + 1) (by omega) (by omega), e1]
        rfl)
      (by
        intro ih i h1 h2
        unfold VF.slices_symMergeCmpFunc_impl_Event.step.l3
        simp only [Int.lt_irrefl, decide_false, sel_false])
      hle (k := k) (by omega)
    rw [h3]
    refine j2_eq hk hM (s := i - P.length) (e := mid - i) hX hY (by omega) (by omega) ha hm hb (by omega) (by omega) (by omega) (by omega) hs (by omega) (by omega) ?_ ?_
    · rcases h4 with h4 | h4
      · rcases hlo3 with h6 | h6
        · left; omega
        · right; left; omega
      · by_cases h0 : i = lo
        · rcases hlo3 with h6 | h6
          · left; omega
          · right; left; omega
        right; right
        rw [show mid - 1 - (i - 1) = mid - i by omega, show i - 1 - P.length = i - P.length - 1 by omega] at h4
        simpa using h4
    · rcases h5 with h5 | h5
      · rcases hhi3 with h6 | h6
        · left; omega
        · right; left; omega
      · by_cases h0 : i = hi
        · rcases hhi3 with h6 | h6
          · left; omega
          · right; left; omega
        right; right
        rw [show mid - 1 - i = mid - i - 1 by omega] at h5
        exact ltE_asymm (by simpa using h5)
  by_cases hc : (mid : Int) < m
  · simp only [hc, decide_true, sel_true]
    have := key (mid + (P.length + X.length) - (P.length + X.length + Y.length)) mid (by omega) (by omega) (by omega) (by omega) (by omega) (by omega) (by omega)
    rw [show ((mid + (P.length + X.length) - (P.length + X.length + Y.length) : Nat) : Int) = (mid : Int) + m - b by omega] at this
    exact this
  · simp only [hc, decide_false, sel_false]
    have := key P.length (P.length + X.length) (by omega) (by omega) (by omega) (by omega) (by omega) (by omega) (by omega)
    rw [← ha, ← hm] at this
    exact this

theorem step_Mg {self : SM} {k n : Nat} (hk : 1000 < k) (hM : Mg self k n) : Mg (VF.slices_symMergeCmpFunc_impl_Event.step self) k (n + 1) := by
  intro P X Y S a m b hX hY hx hy ha hm hb hs hn
  unfold VF.slices_symMergeCmpFunc_impl_Event.step
  simp only [join_eq]
  by_cases h1 : X.length = 1
  · obtain ⟨x, rfl⟩ := List.length_eq_one_iff.1 h1
    have c1 : decide (IntKind.wrap .i64 (m - a) = 1) = true := by rw [w64 (by omega) (by omega)]; simp at hm ⊢; omega
    simp only [c1, sel_true]
    exact one_left hk hY ha hm hb hs
  · have c1 : decide (IntKind.wrap .i64 (m - a) = 1) = false := by rw [w64 (by omega) (by omega)]; simp; omega
    simp only [c1, sel_false]
    unfold VF.slices_symMergeCmpFunc_impl_Event.step.j10
    simp only [join_eq]
    by_cases h2 : Y.length = 1
    · obtain ⟨y, rfl⟩ := List.length_eq_one_iff.1 h2
      have c2 : decide (IntKind.wrap .i64 (b - m) = 1) = true := by rw [w64 (by omega) (by omega)]; simp at hb ⊢; omega
      simp only [c2, sel_true]
      exact one_right (b := b) hk hX ha hm hs
    · have c2 : decide (IntKind.wrap .i64 (b - m) = 1) = false := by rw [w64 (by omega) (by omega)]; simp; omega
      simp only [c2, sel_false]
      exact j5_eq hk hM hX hY (by omega) (by omega) ha hm hb hs hn

theorem rec_Mg {k : Nat} (hk : 1000 < k) : ∀ n, Mg (VF.slices_symMergeCmpFunc_impl_Event.rec (n + 1)) k n := by
  intro n
  induction n with
  | zero => intro P X Y S a m b hX hY hx hy ha hm hb hs hn; omega
  | succ n ih => exact step_Mg hk ih

theorem symMerge_eq {k : Nat} (hk : 1001 < k) : Mg VF.slices_symMergeCmpFunc_impl_Event k 1000 := by
  obtain ⟨j, rfl⟩ : ∃ j, k = j + 1 := ⟨k - 1, by omega⟩
  intro P X Y S a m b hX hY hx hy ha hm hb hs hn
  exact rec_Mg (by omega) j P X Y S a m b hX hY hx hy ha hm hb hs (by omega)
end VM
