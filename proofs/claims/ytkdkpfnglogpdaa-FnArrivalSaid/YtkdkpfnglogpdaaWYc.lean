/- Books stay books, and agree with the ledger. -/
import Derived.Test.YtkdkpfnglogpdaaWYb
set_option linter.unusedVariables false
set_option linter.unusedSimpArgs false
namespace VM
open Go

theorem issB_ok {k : Nat} {sh : List TShelf} (h : ShOk k sh) {e : TEv} {p : List TShelf × Int} (hr : issB sh e = some p) : ShOk k p.1 ∧ W64 p.2 = W64 (worthS sh - worthS p.1) := by
  unfold issB at hr
  rcases idxS_cases sh e.2.2.2.1 with ⟨g1, g2⟩ | ⟨pre, s, post, g1, g2, g3, g4⟩
  · rw [g1, if_pos (by decide)] at hr; simp at hr
  · rw [g3, if_neg (by omega)] at hr
    subst g1
    simp only [rdL_mid, wrL_mid] at hr
    cases hl : issL s.2.2.1 e.2.2.2.2.1 with
    | none => rw [hl] at hr; simp at hr
    | some x =>
      rw [hl] at hr
      simp only [Option.map_some, Option.some.injEq] at hr
      subst hr
      have hs := h.1 s (by simp)
      have hx := issL_areL hl
      have hlen := issL_len hl
      refine ⟨sh_set h rfl ⟨hs.1, hx.1, by simp only; rw [hlen]; exact hs.2.2.1, hs.2.2.2⟩, ?_⟩
      simp only
      rw [worthS_mid, worthS_mid]
      rw [show W64 x.2 = W64 (worthL s.2.2.1 - worthL x.1) from hx.2]
      simp only
      congr 1
      omega

theorem lateB_ok {k : Nat} {sh : List TShelf} (h : ShOk k sh) {e : TEv} {p : List TShelf × Int} (hr : lateB sh e = some p) : ShOk k p.1 ∧ W64 (e.2.2.2.2.2.1 - p.2) = W64 (worthS p.1 - worthS sh) := by
  unfold lateB at hr
  rcases idxS_cases sh e.2.2.2.1 with ⟨g1, g2⟩ | ⟨pre, s, post, g1, g2, g3, g4⟩
  · rw [g1, if_pos (by decide)] at hr; simp at hr
  · rw [g3, if_neg (by omega)] at hr
    subst g1
    simp only [rdL_mid, wrL_mid] at hr
    split at hr
    · simp at hr
    generalize (lastI s.2.1 e.2.2.2.2.2.2.1).2 = i at hr
    cases hl : lateL s.2.2.1 i e.2.2.2.2.2.1 with
    | none => rw [hl] at hr; simp at hr
    | some x =>
      rw [hl] at hr
      simp only [Option.map_some, Option.some.injEq] at hr
      subst hr
      have hs := h.1 s (by simp)
      have hlen := lateL_len hl
      unfold lateL at hl
      split at hl
      case isFalse => simp at hl
      rename_i hc
      split at hl
      case isFalse => simp at hl
      rename_i ha
      simp only [Option.some.injEq] at hl
      have hb := hc.2.1
      have hle := areL_len hc.1
      rw [w64 (by omega) (by omega)] at hb
      simp only [inB, Bool.and_eq_true, decide_eq_true_eq] at hb
      obtain ⟨A, y, B, e1, e2⟩ := split_at (l := s.2.2.1) hb.1 (by omega)
      rw [e1, e2] at hl ha
      simp only [rdL_mid, wrL_mid] at hl ha
      subst hl
      refine ⟨sh_set h rfl ⟨hs.1, ha, by simp only; rw [hlen]; exact hs.2.2.1, hs.2.2.2⟩, ?_⟩
      simp only
      rw [worthS_mid, worthS_mid, e1]
      have hw : ∀ (A B : List TLay) (y : TLay), worthL (A ++ y :: B) = worthL A + wl y + worthL B := by intro A B y; simp [worthL]; omega
      simp only
      rw [hw, hw]
      unfold wl
      simp only
      simp only [W64, IntKind.wrap_i64]
      omega

/-! ### the ledger -/
def balE (es : List TEnt) (a : Key) : Int := (es.map (fun e => if e.1 = a then e.2.1 else 0)).sum
def balD (docs : List TDoc) (a : Key) : Int := (docs.map (fun d => balE d.2.2.1 a)).sum
theorem balE_filt : ∀ (es : List TEnt) (a : Key), balE (filtE es) a = balE es a := by
  intro es a
  induction es with
  | nil => rfl
  | cons e es ih =>
    unfold filtE at ih ⊢
    rw [List.filter_cons]
    by_cases h : e.2.1 = 0
    · simp only [h, decide_true, Bool.not_true, Bool.false_eq_true, if_false]
      rw [ih]
      simp [balE, h]
    · simp only [h, decide_false, Bool.not_false, if_true]
      simp only [balE, List.map_cons, List.sum_cons] at ih ⊢
      rw [ih]
theorem postB_ok {k : Nat} {docs docs' : List TDoc} (hd : areDoc k docs = true) {day : Int} {es : List TEnt} (h : postB k docs day es = some docs') : areDoc k docs' = true ∧ ∀ a, balD docs' a = balD docs a + balE es a := by
  unfold postB at h
  split at h
  · rename_i h0
    simp only [Option.some.injEq] at h
    subst h
    refine ⟨hd, fun a => ?_⟩
    have : filtE es = [] := List.eq_nil_of_length_eq_zero h0
    rw [← balE_filt, this]
    simp [balE]
  · split at h
    · rename_i h1
      simp only [Option.some.injEq] at h
      subst h
      refine ⟨h1, fun a => ?_⟩
      simp [newD, balD, balE_filt]
    · simp at h

/-- Books that agree with their ledger. -/
def AgrB (k : Nat) (b : TBooks) : Prop := areB k b = true ∧ W64 (balD b.2.2.1 nSTOCK) = W64 (worthS b.1) ∧ W64 (balD b.2.2.1 nWORK) = b.2.1

theorem W_add {a b c d : Int} (h : W64 a = W64 b) (h' : W64 c = W64 d) : W64 (a + c) = W64 (b + d) := by
  simp only [W64, IntKind.wrap_i64] at h h' ⊢; omega
end VM
