/- Events: their order, and how two of them are compared. -/
import Derived.Test.YtkdkpfnglogpdaaVG3
import Derived.Test.YtkdkpfnglogpdaaKVa2
set_option linter.unusedVariables false
set_option linter.unusedSimpArgs false
namespace VM
open Go

def kI (e : TEv) : List Int := [e.2.1, e.1, e.2.2.1, e.2.2.2.2.1, e.2.2.2.2.2.1, e.2.2.2.2.2.2.1]
def ltE (a b : TEv) : Prop := kI a < kI b ∨ (kI a = kI b ∧ a.2.2.2.1 < b.2.2.2.1)
instance (a b : TEv) : Decidable (ltE a b) := by unfold ltE; infer_instance

theorem ltE_irrefl (a : TEv) : ¬ ltE a a := by
  rintro (h | ⟨_, h⟩)
  · exact List.lt_irrefl _ h
  · exact List.lt_irrefl _ h
theorem ltE_trans {a b c : TEv} (h : ltE a b) (h' : ltE b c) : ltE a c := by
  rcases h with h | ⟨h, hh⟩ <;> rcases h' with h' | ⟨h', hh'⟩
  · exact .inl (List.lt_trans h h')
  · exact .inl (h' ▸ h)
  · exact .inl (h ▸ h')
  · exact .inr ⟨h.trans h', List.lt_trans hh hh'⟩
theorem kI_tri {a b : List Int} (h : ¬ a < b) (h' : ¬ b < a) : a = b := List.le_antisymm (List.not_lt.1 h') (List.not_lt.1 h)
theorem ltE_tri {a b : TEv} (h : ¬ ltE a b) (h' : ¬ ltE b a) : a = b := by
  have e1 : kI a = kI b := kI_tri (fun q => h (.inl q)) (fun q => h' (.inl q))
  have e2 : a.2.2.2.1 = b.2.2.2.1 := key_tri (fun q => h (.inr ⟨e1, q⟩)) (fun q => h' (.inr ⟨e1.symm, q⟩))
  obtain ⟨a1, a2, a3, a4, a5, a6, a7, _⟩ := a
  obtain ⟨b1, b2, b3, b4, b5, b6, b7, _⟩ := b
  simp only [kI, List.cons.injEq, and_true] at e1
  simp only at e2
  obtain ⟨rfl, rfl, rfl, rfl, rfl, rfl⟩ := e1
  subst e2; rfl
theorem ltE_asymm {a b : TEv} (h : ltE a b) : ¬ ltE b a := fun h' => ltE_irrefl a (ltE_trans h h')
theorem leE_trans {a b c : TEv} (h : ¬ ltE b a) (h' : ¬ ltE c b) : ¬ ltE c a := by
  intro q
  by_cases hab : ltE a b
  · exact h' (ltE_trans q hab)
  · have := ltE_tri hab h; subst this; exact h' q

section
variable {α : Type}
theorem rdL_at {d pre post : List α} {x z : α} {i : Int} (h : d = pre ++ x :: post) (hi : i = pre.length) : rdL d i z = x := by subst h hi; simp
theorem inb_at {d pre post : List α} {x : α} {i : Int} (h : d = pre ++ x :: post) (hi : i = pre.length) : inb d i = true := by subst h hi; simp
theorem wrL_at {d pre post : List α} {x y : α} {i : Int} (h : d = pre ++ x :: post) (hi : i = pre.length) : wrL d i y = pre ++ y :: post := by subst h hi; simp
end

def cmpL (x y : List Int) : Int := if x < y then -1 else if y < x then 1 else 0

theorem cmp_int_eq (k : Nat) (a b : Int) : VF.cmp_Compare_int k a b = some ((if a < b then -1 else if b < a then 1 else 0, ()), ()) := by
  simp only [VF.cmp_Compare_int, VF.cmp_isNaN_int, bnd_some', decide_true, Bool.not_true, sel_false]
  by_cases h : a < b
  · simp [h]
  · by_cases h2 : b < a
    · simp [h, h2]
    · simp [h, h2]

theorem compare_eq {k : Nat} {x y : List Int} (h : x.length = y.length) (hk : x.length < k) (hs : x.length ≤ 1000) : VF.slices_Compare_int_int k x y = some ((cmpL x y, ()), ()) := by
  unfold VF.slices_Compare_int_int
  simp only [join_eq]
  have key : ∀ (x' y' px py : List Int), x = px ++ x' → y = py ++ y' → px.length = py.length → x'.length = y'.length → ∀ n, x'.length < n →
      iter (VF.slices_Compare_int_int.l1 k y (VF.slices_Compare_int_int.j0 x y)) n (x, (x.length : Int), (px.length : Int)) = some ((cmpL x' y', ()), ()) := by
    intro x'
    induction x' with
    | nil =>
      intro y' px py hx hy hp hl n hn
      obtain ⟨n, rfl⟩ : ∃ m, n = m + 1 := ⟨n - 1, by simp at hn; omega⟩
      have : y' = [] := by simpa using hl.symm
      subst this
      rw [iter_succ]
      unfold VF.slices_Compare_int_int.l1
      simp only [List.append_nil] at hx hy
      subst hx
      simp only [Int.lt_irrefl, decide_false, sel_false, VF.slices_Compare_int_int.j0, h]
      simp [cmpL]
    | cons a x' ih =>
      intro y' px py hx hy hp hl n hn
      obtain ⟨n, rfl⟩ : ∃ m, n = m + 1 := ⟨n - 1, by simp at hn; omega⟩
      cases y' with
      | nil => simp at hl
      | cons b y' =>
        rw [iter_succ]
        generalize hI : iter (VF.slices_Compare_int_int.l1 k y (VF.slices_Compare_int_int.j0 x y)) n = I
        unfold VF.slices_Compare_int_int.l1
        have hxl : px.length + (x'.length + 1) = x.length := by rw [hx]; simp
        have hyl : py.length + (y'.length + 1) = y.length := by rw [hy]; simp
        have c1 : decide ((px.length : Int) < (x.length : Int)) = true := by simp; omega
        have c2 : decide ((y.length : Int) ≤ (px.length : Int)) = false := by simp; omega
        simp only [c1, c2, sel_true, sel_false]
        rw [rdL_at hx rfl, rdL_at hy (by rw [hp]), inb_at hx rfl, inb_at hy (by rw [hp]), cmp_int_eq]
        simp only [grd_true, bnd_some']
        have := ih y' (px ++ [a]) (py ++ [b]) (by simpa using hx) (by simpa using hy) (by simpa using hp) (by simpa using hl) n (by simp at hn; omega)
        rw [w64 (by omega) (by omega)]
        rw [hI] at this
        rw [show ((px.length : Int) + 1) = ((px ++ [a]).length : Int) by simp, this]
        simp only [cmpL, List.cons_lt_cons_iff, sel_if]
        by_cases h1 : a < b
        · have : ¬ b < a := by omega
          simp [h1]
        · by_cases h2 : b < a
          · have : ¬ a = b := by omega
            simp [h1, h2, this]
          · have : a = b := by omega
            subst this
            simp
  exact key x y [] [] rfl rfl rfl h k hk

def sgE (a b : TEv) : Int := if ltE a b then -1 else if ltE b a then 1 else 0

theorem compareE_eq {k : Nat} (hk : 100 < k) (a b : TEv) : VF.impl_compareEvents k a b = some ((sgE a b, ()), ()) := by
  unfold VF.impl_compareEvents
  rw [compare_eq (by rfl) (by show 6 < k; omega) (by show 6 ≤ 1000; omega)]
  simp only [bnd_some', sel_if, ltS_eq]
  show (if (!decide (cmpL (kI a) (kI b) = 0)) = true then some ((cmpL (kI a) (kI b), ()), ()) else _) = _
  unfold cmpL sgE ltE
  by_cases h1 : kI a < kI b
  · simp [h1]
  · by_cases h2 : kI b < kI a
    · have : ¬ kI a = kI b := fun e => h1 (by rw [e] at h2 ⊢; exact h2)
      simp [h1, h2, this]
    · have e := kI_tri h1 h2
      simp only [e, List.lt_irrefl, if_false, decide_true, Bool.not_true, Bool.false_eq_true, false_or, true_and]
      by_cases h3 : a.2.2.2.1 < b.2.2.2.1
      · simp [h3]
      · by_cases h4 : b.2.2.2.1 < a.2.2.2.1
        · have : ¬ a.2.2.2.1 = b.2.2.2.1 := fun e => h3 (by rw [e] at h4 ⊢; exact h4)
          simp [h3, h4, this]
        · have h6 := key_tri h3 h4
          have h5 : ¬ b.2.2.2.1 < b.2.2.2.1 := key_irrefl _
          simp [h6, h5]

theorem before_eq {k : Nat} (hk : 100 < k) (a b : TEv) : VF.spec_l37Before k a b = some ((decide (ltE a b), ()), ()) := by
  unfold VF.spec_l37Before
  simp only [join_eq]
  obtain ⟨k, rfl⟩ : ∃ m, k = m + 7 := ⟨k - 7, by omega⟩
  obtain ⟨a1, a2, a3, a4, a5, a6, a7, _⟩ := a
  obtain ⟨b1, b2, b3, b4, b5, b6, b7, _⟩ := b
  have st : ∀ n (x y : List Int) (i : Nat), iter (VF.spec_l37Before.l1 VF.spec_l37Before.j0) (n + 1) ((a1, a2, a3, a4, a5, a6, a7), (b1, b2, b3, b4, b5, b6, b7), x, y, (i : Int)) = 
      VF.spec_l37Before.l1 VF.spec_l37Before.j0 (iter (VF.spec_l37Before.l1 VF.spec_l37Before.j0) n) ((a1, a2, a3, a4, a5, a6, a7), (b1, b2, b3, b4, b5, b6, b7), x, y, (i : Int)) := fun n x y i => rfl
  have gs : ∀ (ih : (Int × Int × Int × List UInt8 × Int × Int × Int) × (Int × Int × Int × List UInt8 × Int × Int × Int) × List Int × List Int × Int → Option ((Bool × Unit) × Unit)) (px py : List Int) (x y : Int) (qx qy : List Int), px.length = py.length → px.length ≤ 100 →
      VF.spec_l37Before.l1 VF.spec_l37Before.j0 ih ((a1, a2, a3, a4, a5, a6, a7), (b1, b2, b3, b4, b5, b6, b7), px ++ x :: qx, py ++ y :: qy, (px.length : Int)) = 
      if x = y then ih ((a1, a2, a3, a4, a5, a6, a7), (b1, b2, b3, b4, b5, b6, b7), (px ++ [x]) ++ qx, (py ++ [y]) ++ qy, ((px ++ [x]).length : Int)) else some ((decide (x < y), ()), ()) := by
    intro ih px py x y qx qy hp hs
    unfold VF.spec_l37Before.l1
    simp only [lt_mid, sel_true]
    rw [rdL_mid, rdL_at (pre := py) rfl (by rw [hp]), inb_mid, inb_at (pre := py) rfl (by rw [hp]), w64 (by omega) (by omega)]
    simp only [grd_true, sel_if]
    by_cases h : x = y
    · simp [h]
    · simp [h]
  have fin : ∀ (ih : (Int × Int × Int × List UInt8 × Int × Int × Int) × (Int × Int × Int × List UInt8 × Int × Int × Int) × List Int × List Int × Int → Option ((Bool × Unit) × Unit)) (x y : List Int) , 
      VF.spec_l37Before.l1 VF.spec_l37Before.j0 ih ((a1, a2, a3, a4, a5, a6, a7), (b1, b2, b3, b4, b5, b6, b7), x, y, (x.length : Int)) = some ((ltS a4 b4, ()), ()) := by
    intro ih x y
    unfold VF.spec_l37Before.l1
    simp only [Int.lt_irrefl, decide_false, sel_false, VF.spec_l37Before.j0]
  have key : ∀ (x y px py : List Int), px.length = py.length → x.length = y.length → px.length + x.length ≤ 100 → ∀ n, x.length < n → 
      iter (VF.spec_l37Before.l1 VF.spec_l37Before.j0) n ((a1, a2, a3, a4, a5, a6, a7), (b1, b2, b3, b4, b5, b6, b7), px ++ x, py ++ y, (px.length : Int)) = some ((decide (x < y ∨ (x = y ∧ a4 < b4)), ()), ()) := by
    intro x
    induction x with
    | nil =>
      intro y px py hp hl hs n hn
      obtain ⟨n, rfl⟩ : ∃ m, n = m + 1 := ⟨n - 1, by simp at hn; omega⟩
      have : y = [] := by simpa using hl.symm
      subst this
      rw [iter_succ, List.append_nil, List.append_nil, fin, ltS_eq]
      simp
    | cons a x ih =>
      intro y px py hp hl hs n hn
      obtain ⟨n, rfl⟩ : ∃ m, n = m + 1 := ⟨n - 1, by simp at hn; omega⟩
      cases y with
      | nil => simp at hl
      | cons b y =>
        rw [iter_succ, gs _ _ _ _ _ _ _ hp (by omega), ih y (px ++ [a]) (py ++ [b]) (by simpa using hp) (by simpa using hl) (by simp at hs ⊢; omega) n (by simp at hn; omega)]
        by_cases h : a = b
        · subst h; simp [List.cons_lt_cons_iff]
        · simp [List.cons_lt_cons_iff, h]
  have := key (kI (a1, a2, a3, a4, a5, a6, a7, ())) (kI (b1, b2, b3, b4, b5, b6, b7, ())) [] [] rfl rfl (by show 6 ≤ 100; omega) (k + 7) (by show 6 < k + 7; omega)
  exact this
end VM
