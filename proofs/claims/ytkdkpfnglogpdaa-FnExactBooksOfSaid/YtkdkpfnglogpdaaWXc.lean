/- For every input, FnExactBooksOf returns true, and its arguments read as they did. Conditions: none. -/
import Derived.Test.YtkdkpfnglogpdaaRows
import Derived.Test.YtkdkpfnglogpdaaKBo
import Derived.Test.YtkdkpfnglogpdaaWXb
import Derived.ProofKit
set_option linter.unusedVariables false
namespace Go.Proofs.Ytkdkpfnglogpdaa.books
open Go.ChangeShapes Go.WideShapes Go.ChangeAt Go.RowKit VM

theorem own : ownKnob Try.prog.godebug = none := by kernel_rfl
theorem laidOut : laidOutB Try.prog = true := by kernel_rfl
set_option maxRecDepth 100000 in
theorem kinds : kTs Try.prog [.sl kEv] Try.f5.params.toList = true := by kernel_rfl
theorem bool4 : Try.prog.underlying 4 = some .bool := by kernel_rfl

set_option maxRecDepth 100000 in
theorem lifted (os : Os) (started : os.Started) (H : Type) (enc : TypeId × Value → H) :
    ReturnsInHanded {} Try.checked os 5 .any (Rows.fnExactBooksOfSpec.pre6 enc Try.prog Try.f5 Rows.fnExactBooksOfRow.domain false) (Rows.fnExactBooksOfSpec.post enc Try.prog Try.f5 false true false false) := by
  refine returnsInHanded_of_change (C := Try.checked) own started (by kernel_rfl) Try.func5
    (ChangeSpec.witness6 (enc := enc) (C := Try.checked) false ⟨#[], #[.slice none 0 0], []⟩ 8 (by kernel_rfl) (by kernel_rfl) (by kernel_rfl) (by kernel_rfl)) ?_
  intro W base args ds gs before hval hW hcnd _
  refine law_calls (P := Try.prog) (f := 5) (fn := Try.f5) (s := Rows.fnExactBooksOfSpec) (cs := [.sl kEv]) (tb := 4) (run := fun k x => VF.laws_FnExactBooksOf k x.1)
    S5 laidOut kinds (by kernel_rfl) bool4 rfl ?_ W base args ds gs before ?_ hval hW
  · intro ds hds
    match ds, hds with
    | [d1], _ => rfl
  · intro x hok _
    exact ⟨1048600, (), books_true x.1 hok.1⟩

theorem proved : Rows.FnExactBooksOfSaid :=
  OpenClaim.holds_of_wide 5 Try.f5 rfl rfl rfl rfl rfl rfl rfl ⟨rfl, rfl, rfl, rfl, rfl⟩ rfl rfl rfl rfl rfl (by kernel_rfl) Try.func5 (by kernel_rfl)
    (of_decide_eq_true (by kernel_rfl)) (by unfold Func.isWrapper; first | (rw [if_pos (by decide +kernel)]; kernel_rfl) | (rw [if_neg (by decide +kernel)]; exact ⟨rfl, rfl⟩))
    (fun os started H enc _ => lifted os started H enc)
#print axioms proved
end Go.Proofs.Ytkdkpfnglogpdaa.books
