/- Layers stay layers, and what they are worth. -/
import Derived.Test.YtkdkpfnglogpdaaWTe
set_option linter.unusedVariables false
set_option linter.unusedSimpArgs false
namespace VM
open Go

/-- A layer is begun only when the one ahead of it is used up. -/
def Ch : List TLay → Prop
  | [] => True
  | [_] => True
  | y :: x :: l => (0 < x.2.2.1 → y.1 ≤ y.2.2.1) ∧ Ch (x :: l)
def Hd : Option TLay → List TLay → Prop
  | some y, x :: _ => 0 < x.2.2.1 → y.1 ≤ y.2.2.1
  | _, _ => True

theorem okL_iff {pre : List TLay} {x : TLay} : okL pre x = true ↔ LayOk x ∧ Hd pre.getLast? [x] := by
  unfold okL prevFull Hd LayOk inB
  cases pre.getLast? with
  | none => simp only [Bool.and_eq_true, decide_eq_true_eq, and_true, true_and]; omega
  | some y =>
    simp only [Bool.and_eq_true, decide_eq_true_eq, Bool.not_eq_true', Bool.and_eq_false_iff, decide_eq_false_iff_not]
    omega

theorem allP_iff : ∀ {l pre : List TLay}, allP okL pre l = true ↔ (∀ x ∈ l, LayOk x) ∧ Hd pre.getLast? l ∧ Ch l := by
  intro l
  induction l with
  | nil => intro pre; simp [allP, Hd, Ch]
  | cons x l ih =>
    intro pre
    simp only [allP, Bool.and_eq_true, okL_iff, ih]
    have e : (pre ++ [x]).getLast? = some x := by simp
    rw [e]
    have h1 : Hd pre.getLast? [x] ↔ Hd pre.getLast? (x :: l) := by cases pre.getLast? <;> rfl
    rw [h1]
    cases l with
    | nil => simp [Hd, Ch]
    | cons y l =>
      simp only [Hd, Ch, List.mem_cons]
      constructor
      · rintro ⟨⟨a, b⟩, c, d, e⟩
        refine ⟨?_, b, d, e⟩
        rintro z (rfl | hz)
        · exact a
        · exact c z hz
      · rintro ⟨a, b, d, e⟩
        exact ⟨⟨a x (.inl rfl), b⟩, fun z hz => a z (.inr hz), d, e⟩

theorem areL_iff {l : List TLay} : areL l = true ↔ (∀ x ∈ l, LayOk x) ∧ Ch l ∧ l.length ≤ 24 := by
  unfold areL
  rw [Bool.and_eq_true, allP_iff, decide_eq_true_eq]
  simp only [List.getLast?_nil, Hd]
  constructor
  · rintro ⟨⟨a, _, b⟩, c⟩; exact ⟨a, b, c⟩
  · rintro ⟨a, b, c⟩; exact ⟨⟨a, trivial, b⟩, c⟩

/-- Pieces are taken, layer by layer. -/
def issR : List TLay → Int → List TLay
  | [], _ => []
  | x :: l, q => (x.1, x.2.1, x.2.2.1 + mnI q (x.1 - x.2.2.1), ()) :: issR l (q - mnI q (x.1 - x.2.2.1))
def wl (x : TLay) : Int := x.2.1 - fcL x x.2.2.1
def worthL (l : List TLay) : Int := (l.map wl).sum
theorem worthL_cons (x : TLay) (l : List TLay) : worthL (x :: l) = wl x + worthL l := by simp [worthL]

theorem issF_R : ∀ (l : List TLay) (q : Int) (done : List TLay) (c : Int), ∃ q' c', l.foldl issF (q, done, c) = (q', done ++ issR l q, c') ∧ IntKind.wrap .i64 c' = IntKind.wrap .i64 (c + worthL l - worthL (issR l q)) := by
  intro l
  induction l with
  | nil => intro q done c; exact ⟨q, c, by simp [issR], by simp [issR, worthL]⟩
  | cons x l ih =>
    intro q done c
    rw [List.foldl_cons]
    obtain ⟨q', c', h1, h2⟩ := ih (q - mnI q (x.1 - x.2.2.1)) (done ++ [(x.1, x.2.1, x.2.2.1 + mnI q (x.1 - x.2.2.1), ())]) (IntKind.wrap .i64 (c + (fcL x (x.2.2.1 + mnI q (x.1 - x.2.2.1)) - fcL x x.2.2.1)))
    refine ⟨q', c', ?_, ?_⟩
    · unfold issF at h1 ⊢
      simp only [issR]
      rw [h1]
      simp
    · rw [h2]
      simp only [issR, worthL_cons]
      have e : wl (x.1, x.2.1, x.2.2.1 + mnI q (x.1 - x.2.2.1), ()) = x.2.1 - fcL x (x.2.2.1 + mnI q (x.1 - x.2.2.1)) := rfl
      rw [e]
      unfold wl
      simp only [IntKind.wrap_i64]
      omega

theorem issR_ok : ∀ {l : List TLay} {q : Int}, 0 ≤ q → (∀ x ∈ l, LayOk x) → Ch l → (∀ x ∈ issR l q, LayOk x) ∧ Ch (issR l q) := by
  intro l
  induction l with
  | nil => intro q _ _ _; simp [issR, Ch]
  | cons x l ih =>
    intro q hq hok hc
    have hx := hok x (by simp)
    unfold LayOk at hx
    have hm := mn_bd hq (n := x.1 - x.2.2.1) (by omega)
    have hm2 : mnI q (x.1 - x.2.2.1) = q ∨ mnI q (x.1 - x.2.2.1) = x.1 - x.2.2.1 := by unfold mnI; split <;> simp
    have hcl : Ch l := by
      cases l with
      | nil => trivial
      | cons y l => exact hc.2
    obtain ⟨h1, h2⟩ := ih (q := q - mnI q (x.1 - x.2.2.1)) (by omega) (fun y hy => hok y (by simp [hy])) hcl
    refine ⟨?_, ?_⟩
    · intro y hy
      simp only [issR] at hy
      rcases List.mem_cons.1 hy with rfl | hy
      · unfold LayOk; simp only; omega
      · exact h1 y hy
    · cases l with
      | nil => simp [issR, Ch]
      | cons y l =>
        simp only [issR] at h2 ⊢
        refine ⟨?_, h2⟩
        intro hu
        simp only at hu ⊢
        have hy := hok y (by simp)
        unfold LayOk at hy
        have hh := hc.1
        have hm3 := mn_bd (q := q - mnI q (x.1 - x.2.2.1)) (by omega) (n := y.1 - y.2.2.1) (by omega)
        by_cases h0 : 0 < y.2.2.1
        · have := hh h0; omega
        · omega

theorem issL_areL {l : List TLay} {q : Int} {p : List TLay × Int} (h : issL l q = some p) : areL p.1 = true ∧ IntKind.wrap .i64 p.2 = IntKind.wrap .i64 (worthL l - worthL p.1) := by
  unfold issL at h
  split at h
  case isFalse => simp at h
  rename_i hc
  simp only [Option.some.injEq] at h
  subst h
  obtain ⟨q', c', e1, e2⟩ := issF_R l q [] 0
  unfold issP
  rw [e1]
  obtain ⟨a, b, c⟩ := areL_iff.1 hc.1
  simp only [List.nil_append]
  obtain ⟨h1, h2⟩ := issR_ok (q := q) (by omega) a b
  have hlen : ∀ (l : List TLay) (q : Int), (issR l q).length = l.length := by
    intro l
    induction l with
    | nil => intro q; rfl
    | cons x l ih => intro q; simp [issR, ih]
  refine ⟨areL_iff.2 ⟨h1, h2, by rw [hlen]; exact c⟩, ?_⟩
  rw [e2]
  simp only [Int.zero_add]
end VM
