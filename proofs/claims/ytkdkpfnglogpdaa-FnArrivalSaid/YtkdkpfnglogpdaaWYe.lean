/- Books that agree go on agreeing. -/
import Derived.Test.YtkdkpfnglogpdaaWYd
set_option linter.unusedVariables false
set_option linter.unusedSimpArgs false
namespace VM
open Go

theorem W_id {x : Int} (h0 : 0 ≤ x) (h1 : x ≤ 1000000000000) : W64 x = x := w64 (by omega) (by omega)
theorem W_W (x : Int) : W64 (W64 x) = W64 x := wrap_wrap x

theorem bal2 (a b c : Key) (x y : Int) : balE [(a, x, ()), (b, y, ())] c = (if a = c then x else 0) + (if b = c then y else 0) := by simp [balE]
theorem bal3 (a b d c : Key) (x y z : Int) : balE [(a, x, ()), (b, y, ()), (d, z, ())] c = (if a = c then x else 0) + (if b = c then y else 0) + (if d = c then z else 0) := by simp [balE]; omega
theorem bal4 (a b d e c : Key) (x y z w : Int) : balE [(a, x, ()), (b, y, ()), (d, z, ()), (e, w, ())] c = (if a = c then x else 0) + (if b = c then y else 0) + (if d = c then z else 0) + (if e = c then w else 0) := by simp [balE]; omega

theorem bookP_agr {k : Nat} {b b' : TBooks} (h : AgrB k b) {e : TEv} (he : isEv k e = true) (hr : bookP k b e = some b') : AgrB k b' := by
  obtain ⟨ha, hs, hw⟩ := h
  obtain ⟨⟨hS1, hS2⟩, hS3, hwk, hD⟩ := areB_iff.1 ha
  have hSh : ShOk k b.1 := ⟨hS1, hS2, hS3⟩
  obtain ⟨S, w, D, _⟩ := b
  obtain ⟨id, day, kind, item, q, amt, ref, _⟩ := e
  simp only at hs hw hS1 hS2 hS3 hwk hD hSh
  have hev := he
  simp only [isEv, Bool.and_eq_true] at hev
  obtain ⟨hid, hday, hitem, hkind⟩ := hev
  simp only [inB, Bool.and_eq_true, decide_eq_true_eq] at hwk
  have mk : ∀ (S' : List TShelf) (w' : Int) (D' : List TDoc), ShOk k S' → 0 ≤ w' → w' ≤ 1000000000 → areDoc k D' = true → W64 (balD D' nSTOCK) = W64 (worthS S') → W64 (balD D' nWORK) = w' → AgrB k (S', w', D', ()) := by
    intro S' w' D' h1 h2 h3 h4 h5 h6
    exact ⟨areB_iff.2 ⟨⟨h1.1, h1.2.1⟩, h1.2.2, by simp only [inB, Bool.and_eq_true, decide_eq_true_eq]; exact ⟨h2, h3⟩, h4⟩, h5, h6⟩
  have ne1 : ¬ (nSUPPLY = nSTOCK) := by decide
  have ne2 : ¬ (nSTOCK = nWORK) := by decide
  have ne3 : ¬ (nSUPPLY = nWORK) := by decide
  have ne4 : ¬ (nWORK = nSTOCK) := by decide
  have ne5 : ¬ (nCASH = nSTOCK) := by decide
  have ne6 : ¬ (nSALES = nSTOCK) := by decide
  have ne7 : ¬ (nCOST = nSTOCK) := by decide
  have ne8 : ¬ (nCASH = nWORK) := by decide
  have ne9 : ¬ (nSALES = nWORK) := by decide
  have ne10 : ¬ (nCOST = nWORK) := by decide
  unfold bookP at hr
  simp only at hr hkind
  by_cases k1 : kind = 1
  · subst k1
    rw [if_pos rfl] at hr
    simp only [Option.bind_eq_some_iff, Option.map_eq_some_iff] at hr
    obtain ⟨sh, r1, d, r2, rfl⟩ := hr
    obtain ⟨o1, o2⟩ := recB_ok hSh hitem hid r1
    obtain ⟨p1, p2⟩ := postB_ok hD r2
    refine mk _ _ _ o1 hwk.1 hwk.2 p1 ?_ ?_
    · rw [p2, bal2, o2]
      simp only [if_true, ne1, if_false, Int.add_zero]
      exact W_add hs rfl
    · rw [p2, bal2]
      simp only [ne2, ne3, if_false, Int.add_zero]
      exact hw
  rw [if_neg k1] at hr
  by_cases k3 : kind = 3
  · subst k3
    rw [if_pos rfl] at hr
    split at hr
    · simp at hr
    rename_i hlt
    simp only [Option.bind_eq_some_iff, Option.map_eq_some_iff] at hr
    obtain ⟨sh, r1, d, r2, rfl⟩ := hr
    obtain ⟨o1, o2⟩ := recB_ok hSh hitem hid r1
    obtain ⟨p1, p2⟩ := postB_ok hD r2
    have hamt : 1 ≤ amt := by
      have h9 := hkind
      rw [if_pos (by decide)] at h9
      simp only [inB, Bool.and_eq_true, decide_eq_true_eq] at h9
      omega
    have hwa : W64 (w - amt) = w - amt := W_id (by omega) (by omega)
    refine mk _ _ _ o1 (by omega) (by omega) p1 ?_ ?_
    · rw [p2, bal2, o2]
      simp only [if_true, ne4, if_false, Int.add_zero]
      exact W_add hs rfl
    · rw [p2, bal2]
      simp only [ne2, if_true, if_false, Int.zero_add]
      have e1 : W64 (balD D nWORK) = W64 w := by rw [hw]; exact (W_id hwk.1 (by omega)).symm
      have e2 : W64 (W64 (0 - amt)) = W64 (0 - amt) := W_W _
      rw [W_add e1 e2]
      rw [show w + (0 - amt) = w - amt by omega]
  rw [if_neg k3] at hr
  by_cases k2 : kind = 2
  · subst k2
    rw [if_pos rfl] at hr
    simp only [Option.bind_eq_some_iff] at hr
    obtain ⟨p, r1, d, r2, r3⟩ := hr
    split at r3
    case isFalse => simp at r3
    rename_i hle
    simp only [Option.some.injEq] at r3
    subst r3
    obtain ⟨o1, o2⟩ := issB_ok hSh r1
    have hc := issB_cost hSh r1
    obtain ⟨p1, p2⟩ := postB_ok hD r2
    have hwa : W64 (w + p.2) = w + p.2 := W_id (by omega) (by omega)
    refine mk _ _ _ o1 (by omega) (by omega) p1 ?_ ?_
    · rw [p2, bal2]
      simp only [if_true, ne4, if_false, Int.zero_add]
      simp only [W64, IntKind.wrap_i64] at hs o2 ⊢
      omega
    · rw [p2, bal2]
      simp only [ne2, if_true, if_false, Int.add_zero]
      exact W_add (by rw [hw]; exact (W_id hwk.1 (by omega)).symm) rfl
  rw [if_neg k2] at hr
  by_cases k4 : kind = 4
  · subst k4
    rw [if_pos rfl] at hr
    simp only [Option.bind_eq_some_iff, Option.map_eq_some_iff] at hr
    obtain ⟨p, r1, d, r2, rfl⟩ := hr
    obtain ⟨o1, o2⟩ := issB_ok hSh r1
    obtain ⟨p1, p2⟩ := postB_ok hD r2
    refine mk _ _ _ o1 hwk.1 hwk.2 p1 ?_ ?_
    · rw [p2, bal4]
      simp only [if_true, ne5, ne6, ne7, if_false, Int.zero_add]
      simp only [W64, IntKind.wrap_i64] at hs o2 ⊢
      omega
    · rw [p2, bal4]
      simp only [ne2, ne8, ne9, ne10, if_false, Int.add_zero]
      exact hw
  · rw [if_neg k4] at hr
    simp only [Option.bind_eq_some_iff, Option.map_eq_some_iff] at hr
    obtain ⟨p, r1, d, r2, rfl⟩ := hr
    obtain ⟨o1, o2⟩ := lateB_ok hSh r1
    obtain ⟨p1, p2⟩ := postB_ok hD r2
    refine mk _ _ _ o1 hwk.1 hwk.2 p1 ?_ ?_
    · rw [p2, bal3]
      simp only [if_true, ne1, ne7, if_false, Int.add_zero]
      simp only [W64, IntKind.wrap_i64] at hs o2 ⊢
      omega
    · rw [p2, bal3]
      simp only [ne2, ne3, ne10, if_false, Int.add_zero]
      exact hw

theorem agr_nil (k : Nat) : AgrB k ([], 0, [], ()) := by
  refine ⟨rfl, rfl, ?_⟩
  exact W_id (by simp [balD]) (by simp [balD])
theorem bookF_agr {k : Nat} {a : TBooks × List Int} (h : AgrB k a.1) (e : TEv) : AgrB k (bookF k a e).1 := by
  unfold bookF
  cases hb : bookE k a.1 e with
  | none => exact h
  | some b =>
    unfold bookE at hb
    split at hb
    · rename_i hc; exact bookP_agr h hc.2 hb
    · simp at hb
theorem booksV_agr (k : Nat) (l : List TEv) : AgrB k (booksV k l).1 := by
  unfold booksV
  generalize sortV k l = Z
  have : ∀ (Z : List TEv) (a : TBooks × List Int), AgrB k a.1 → AgrB k (Z.foldl (bookF k) a).1 := by
    intro Z
    induction Z with
    | nil => intro a h; exact h
    | cons x Z ih => intro a h; rw [List.foldl_cons]; exact ih _ (bookF_agr h x)
  exact this Z _ (agr_nil k)
end VM
