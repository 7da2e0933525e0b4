/- What is issued costs nothing less than 0; books that agree go on agreeing. -/
import Derived.Test.YtkdkpfnglogpdaaWYc
set_option linter.unusedVariables false
set_option linter.unusedSimpArgs false
namespace VM
open Go

theorem fc_bd {x : TLay} (h : LayOk x) {u : Int} (h0 : 0 ≤ u) (h1 : u ≤ x.1) : fcL x u = x.2.1 * u / x.1 ∧ 0 ≤ fcL x u ∧ fcL x u ≤ 1000000000 := by
  unfold LayOk at h
  have m0 : 0 ≤ x.2.1 * u := Int.mul_nonneg (by omega) h0
  have m1 : x.2.1 * u ≤ 1000000000 * x.1 := Int.mul_le_mul (by omega) h1 h0 (by omega)
  have d0 : 0 ≤ x.2.1 * u / x.1 := Int.ediv_nonneg m0 (by omega)
  have d1 : x.2.1 * u / x.1 ≤ 1000000000 := by
    have := Int.ediv_le_ediv (c := x.1) (by omega) m1
    rwa [Int.mul_ediv_cancel _ (by omega)] at this
  have e : fcL x u = x.2.1 * u / x.1 := by
    unfold fcL
    rw [w64 (x := x.2.1 * u) (by omega) (by omega), Int.tdiv_eq_ediv_of_nonneg m0, w64 (by omega) (by omega)]
  rw [e]
  exact ⟨rfl, d0, d1⟩
theorem fc_mono {x : TLay} (h : LayOk x) {u v : Int} (h0 : 0 ≤ u) (huv : u ≤ v) (h1 : v ≤ x.1) : fcL x u ≤ fcL x v := by
  rw [(fc_bd h h0 (by omega)).1, (fc_bd h (by omega) h1).1]
  unfold LayOk at h
  exact Int.ediv_le_ediv (by omega) (Int.mul_le_mul_of_nonneg_left huv (by omega))

theorem iss_cost : ∀ {l : List TLay} {q c : Int} {done : List TLay} {n : Nat}, (∀ x ∈ l, LayOk x) → 0 ≤ q → 0 ≤ c → c ≤ 1000000000 * n → n + l.length ≤ 24 → 0 ≤ (l.foldl issF (q, done, c)).2.2 ∧ (l.foldl issF (q, done, c)).2.2 ≤ 24000000000 := by
  intro l
  induction l with
  | nil => intro q c done n _ _ h0 h1 h2; simp at h2 ⊢; omega
  | cons x l ih =>
    intro q c done n hok hq h0 h1 h2
    have hx := hok x (by simp)
    have hx' := hx
    unfold LayOk at hx'
    have hm := mn_bd hq (n := x.1 - x.2.2.1) (by omega)
    have b1 := fc_bd hx (u := x.2.2.1 + mnI q (x.1 - x.2.2.1)) (by omega) (by omega)
    have b2 := fc_bd hx (u := x.2.2.1) (by omega) (by omega)
    have b3 := fc_mono hx (u := x.2.2.1) (v := x.2.2.1 + mnI q (x.1 - x.2.2.1)) (by omega) (by omega) (by omega)
    rw [List.foldl_cons]
    simp only [List.length_cons] at h2
    unfold issF
    simp only
    rw [w64 (by omega) (by omega)]
    exact ih (n := n + 1) (fun y hy => hok y (by simp [hy])) (by omega) (by omega) (by omega) (by omega)

theorem issB_cost {k : Nat} {sh : List TShelf} (h : ShOk k sh) {e : TEv} {p : List TShelf × Int} (hr : issB sh e = some p) : 0 ≤ p.2 ∧ p.2 ≤ 24000000000 := by
  unfold issB at hr
  split at hr
  · simp at hr
  · cases hl : issL (rdL sh (idxS sh e.2.2.2.1) S0).2.2.1 e.2.2.2.2.1 with
    | none => rw [hl] at hr; simp at hr
    | some x =>
      rw [hl] at hr
      simp only [Option.map_some, Option.some.injEq] at hr
      subst hr
      unfold issL at hl
      split at hl
      case isFalse => simp at hl
      rename_i hc
      simp only [Option.some.injEq] at hl
      subst hl
      obtain ⟨a, b, c⟩ := areL_iff.1 hc.1
      exact iss_cost (n := 0) a (by omega) (by omega) (by omega) (by omega)
end VM
