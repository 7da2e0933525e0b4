/- For every input, FnTakenBack returns true, and its arguments read as they did. Conditions: none. -/
import Derived.Test.YtljofbhokcdklaaRows
import Derived.Test.YtljofbhokcdklaaKTb
import Derived.Test.YtljofbhokcdklaaWUc
import Derived.ProofKit
set_option linter.unusedVariables false
namespace Go.Proofs.Ytljofbhokcdklaa.taken
open Go.ChangeShapes Go.WideShapes Go.ChangeAt Go.RowKit VM

theorem own : ownKnob Try.prog.godebug = none := by kernel_rfl
theorem laidOut : laidOutB Try.prog = true := by kernel_rfl
set_option maxRecDepth 100000 in
theorem kinds : kTs Try.prog [.sl (.int .u8)] Try.f6.params.toList = true := by kernel_rfl
theorem bool4 : Try.prog.underlying 4 = some .bool := by kernel_rfl

set_option maxRecDepth 100000 in
theorem lifted (os : Os) (started : os.Started) (H : Type) (enc : TypeId × Value → H) :
    ReturnsInHanded {} Try.checked os 6 .any (Rows.fnTakenBackSpec.pre6 enc Try.prog Try.f6 Rows.fnTakenBackRow.domain false) (Rows.fnTakenBackSpec.post enc Try.prog Try.f6 false true false false) := by
  refine returnsInHanded_of_change (C := Try.checked) own started (by kernel_rfl) Try.func6
    (ChangeSpec.witness6 (enc := enc) (C := Try.checked) false ⟨#[], #[.slice none 0 0], []⟩ 8 (by kernel_rfl) (by kernel_rfl) (by kernel_rfl) (by kernel_rfl)) ?_
  intro W base args ds gs before hval hW hcnd _
  refine law_calls (P := Try.prog) (f := 6) (fn := Try.f6) (s := Rows.fnTakenBackSpec) (cs := [.sl (.int .u8)]) (tb := 4) (run := fun k x => VF.laws_FnTakenBack k x.1)
    S6 laidOut kinds (by kernel_rfl) bool4 rfl ?_ W base args ds gs before ?_ hval hW
  · intro ds hds
    match ds, hds with
    | [d1], _ => rfl
  · intro x hok _
    exact ⟨1048600, (), taken_true x.1⟩

theorem proved : Rows.FnTakenBackSaid :=
  OpenClaim.holds_of_wide 6 Try.f6 rfl rfl rfl rfl rfl rfl rfl ⟨rfl, rfl, rfl, rfl, rfl⟩ rfl rfl rfl rfl rfl (by kernel_rfl) Try.func6 (by kernel_rfl)
    (of_decide_eq_true (by kernel_rfl)) (by unfold Func.isWrapper; first | (rw [if_pos (by decide +kernel)]; kernel_rfl) | (rw [if_neg (by decide +kernel)]; exact ⟨rfl, rfl⟩))
    (fun os started H enc _ => lifted os started H enc)
#print axioms proved
end Go.Proofs.Ytljofbhokcdklaa.taken
