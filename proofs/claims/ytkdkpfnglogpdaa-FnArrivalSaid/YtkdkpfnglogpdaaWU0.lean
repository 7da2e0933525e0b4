/- What is drawn: the first. -/
import Derived.Test.YtkdkpfnglogpdaaVHd
set_option linter.unusedVariables false
set_option linter.unusedSimpArgs false
namespace VM
open Go
theorem new_ex0 {k : Nat} (hk : 1048577 < k) {code : List Int} (hc : code.length ≤ 1048576) : ∃ c : Cur, VF.spec_l1New k code = some ((c, ()), ()) ∧ CurOk c := by
  unfold VF.spec_l1New
  rw [join_eq]
  have key : ∀ (post pre : List Int), code = pre ++ post → ∀ (h : Int) (j : Nat), post.length < j → ∃ c : Cur, iter (VF.spec_l1New.l1 code (VF.spec_l1New.j0 code)) j (h, (pre.length : Int)) = some ((c, ()), ()) ∧ CurOk c := by
    intro post
    induction post with
    | nil =>
      intro pre hx h j hj
      obtain ⟨j', rfl⟩ : ∃ j', j = j' + 1 := ⟨j - 1, by omega⟩
      rw [List.append_nil] at hx
      subst hx
      rw [iter_succ]
      simp only [VF.spec_l1New.l1, Int.lt_irrefl, decide_false, sel_false]
      exact ⟨_, rfl, by simp [CurOk, hc]⟩
    | cons x post ih =>
      intro pre hx h j hj
      obtain ⟨j', rfl⟩ : ∃ j', j = j' + 1 := ⟨j - 1, by omega⟩
      rw [iter_succ]
      have hpl : pre.length < 1099511627776 := by have := congrArg List.length hx; simp at this; omega
      have g1 : decide ((pre.length : Int) < (code.length : Int)) = true := by rw [hx]; exact lt_mid _ _ _
      have g2 : inb code (pre.length : Int) = true := by rw [hx]; exact inb_mid _ _ _
      simp only [VF.spec_l1New.l1, g1, sel_true, g2, grd_true, wnext hpl]
      cases decide ((pre.length : Int) < 4000) with
      | false => exact ⟨_, rfl, by simp [CurOk, hc]⟩
      | true =>
        simp only [sel_true]
        have hl : ((pre ++ [x]).length : Int) = ((pre.length + 1 : Nat) : Int) := by simp
        have ih' := fun h' => ih (pre ++ [x]) (by simpa using hx) h' j' (by simp at hj; omega)
        rw [hl] at ih'
        exact ih' _
  have := key code [] rfl (IntKind.wrap .i64 (10101 + (code.length : Int))) k (by omega)
  simpa using this

end VM
