/- For every input, FnArrival returns true, and its arguments read as they did. Conditions: none. -/
import Derived.Test.YtkdkpfnglogpdaaRows
import Derived.Test.YtkdkpfnglogpdaaKAr
import Derived.Test.YtkdkpfnglogpdaaWYh
import Derived.ProofKit
set_option linter.unusedVariables false
namespace Go.Proofs.Ytkdkpfnglogpdaa.arrival
open Go.ChangeShapes Go.WideShapes Go.ChangeAt Go.RowKit VM

theorem own : ownKnob Try.prog.godebug = none := by kernel_rfl
theorem laidOut : laidOutB Try.prog = true := by kernel_rfl
set_option maxRecDepth 100000 in
theorem kinds : kTs Try.prog [.sl (.int .u8)] Try.f3.params.toList = true := by kernel_rfl
theorem bool4 : Try.prog.underlying 4 = some .bool := by kernel_rfl

set_option maxRecDepth 100000 in
theorem lifted (os : Os) (started : os.Started) (H : Type) (enc : TypeId × Value → H) :
    ReturnsInHanded {} Try.checked os 3 .any (Rows.fnArrivalSpec.pre6 enc Try.prog Try.f3 Rows.fnArrivalRow.domain false) (Rows.fnArrivalSpec.post enc Try.prog Try.f3 false true false false) := by
  refine returnsInHanded_of_change (C := Try.checked) own started (by kernel_rfl) Try.func3
    (ChangeSpec.witness6 (enc := enc) (C := Try.checked) false ⟨#[], #[.slice none 0 0], []⟩ 8 (by kernel_rfl) (by kernel_rfl) (by kernel_rfl) (by kernel_rfl)) ?_
  intro W base args ds gs before hval hW hcnd _
  refine law_calls (P := Try.prog) (f := 3) (fn := Try.f3) (s := Rows.fnArrivalSpec) (cs := [.sl (.int .u8)]) (tb := 4) (run := fun k x => VF.laws_FnArrival k x.1)
    S3 laidOut kinds (by kernel_rfl) bool4 rfl ?_ W base args ds gs before ?_ hval hW
  · intro ds hds
    match ds, hds with
    | [d1], _ => rfl
  · intro x hok _
    exact ⟨1048600, (), arrival_true x.1⟩

theorem proved : Rows.FnArrivalSaid :=
  OpenClaim.holds_of_wide 3 Try.f3 rfl rfl rfl rfl rfl rfl rfl ⟨rfl, rfl, rfl, rfl, rfl⟩ rfl rfl rfl rfl rfl (by kernel_rfl) Try.func3 (by kernel_rfl)
    (of_decide_eq_true (by kernel_rfl)) (by unfold Func.isWrapper; first | (rw [if_pos (by decide +kernel)]; kernel_rfl) | (rw [if_neg (by decide +kernel)]; exact ⟨rfl, rfl⟩))
    (fun os started H enc _ => lifted os started H enc)
#print axioms proved
end Go.Proofs.Ytkdkpfnglogpdaa.arrival
