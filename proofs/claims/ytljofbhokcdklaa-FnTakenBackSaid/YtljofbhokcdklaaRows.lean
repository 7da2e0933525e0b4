/-
  No cell of these rows narrows 'for every input' (looked for: loops, veiled, ifaces, maps, wideKeys, modest, calm, conditions, laid).
  DERIVED. THE GIVEN ROWS OF THIS SEAT. 5 by the template 'for every input the law returns true; each argument reads behind the call as it read before'; 0 by the template 'total and deterministic' (their statements: YtljofbhokcdklaaTotals.lean).
  GIVEN WITH THE SEED: the statements are not yours to turn. If you find one false, say at which input.
  Laid BY PROGRAM, IN A SANDBOX (cutbox-rows.mjs): the forced cells as the released guide's own fill.sh prints them over the translation 12f37e8b7cd23605… (all of the seat's roots in one cut). By AI agents, Wed Nov 11 2026. No macro, syntax, notation, axiom, sorry.
-/
import Derived.Test.YtljofbhokcdklaaChecked
import GoSem.Claim
import GoSem.ClaimJoined
import GoSem.ClaimMapViews
import Derived.JoinedTies
import Derived.KernelRfl
namespace Go.Proofs.Ytljofbhokcdklaa
/- THE CELL 'sum', in the pinned program and in every row, IS THE sha256 OF THE DUMP (.gsa) THAT YtljofbhokcdklaaProg.lean LOADS. Nothing in Lean hashes anything: it is a label: what it is worth is what the hold of that sum in a sandbox is worth. -/
noncomputable def Try.pinned : Pinned := { name := "ytljofbhokcdklaa", sum := "12f37e8b7cd23605cc4d3c077b809893ae53a811cadbf9725aa5ba30cd50f165", checked := Try.checked }
namespace Rows
def none {H : Type} : Left H := { results := [], args := [] }

/-- 'laws.FnExactGroupTrial': WHATEVER THE INPUT: true; the input reads as it did. -/
def fnExactGroupTrialSpec : ChangeSpec := { name := "fnExactGroupTrial", fn := fun _ => fun
  | [d1, d2] => { results := [.lit (.bool true)], args := [d1, d2] }
  | _ => none }
def fnExactGroupTrialRow : OpenClaim := { program := "ytljofbhokcdklaa", sum := "12f37e8b7cd23605cc4d3c077b809893ae53a811cadbf9725aa5ba30cd50f165", func := "loop.example/g03407/laws.FnExactGroupTrial", spec := "fnExactGroupTrial", recurses := true, apart := false }
def FnExactGroupTrialSaid : Prop := fnExactGroupTrialRow.holds Try.pinned (OpenSpec.ofChange fnExactGroupTrialSpec)

/-- ITS FALSE NEIGHBOUR: 'it returns false'. Refute it at one input. -/
def fnExactGroupTrialWrong : ChangeSpec := { name := "fnExactGroupTrial", fn := fun _ => fun
  | [d1, d2] => { results := [.lit (.bool false)], args := [d1, d2] }
  | _ => none }
def FnExactGroupTrialWrongFalsely : Prop := fnExactGroupTrialRow.holds Try.pinned (OpenSpec.ofChange fnExactGroupTrialWrong)

/-- 'laws.FnMovements': WHATEVER THE INPUT: true; the input reads as it did. -/
def fnMovementsSpec : ChangeSpec := { name := "fnMovements", fn := fun _ => fun
  | [d] => { results := [.lit (.bool true)], args := [d] }
  | _ => none }
def fnMovementsRow : OpenClaim := { program := "ytljofbhokcdklaa", sum := "12f37e8b7cd23605cc4d3c077b809893ae53a811cadbf9725aa5ba30cd50f165", func := "loop.example/g03407/laws.FnMovements", spec := "fnMovements", recurses := true, apart := false }
def FnMovementsSaid : Prop := fnMovementsRow.holds Try.pinned (OpenSpec.ofChange fnMovementsSpec)

/-- ITS FALSE NEIGHBOUR: 'it returns false'. Refute it at one input. -/
def fnMovementsWrong : ChangeSpec := { name := "fnMovements", fn := fun _ => fun
  | [d] => { results := [.lit (.bool false)], args := [d] }
  | _ => none }
def FnMovementsWrongFalsely : Prop := fnMovementsRow.holds Try.pinned (OpenSpec.ofChange fnMovementsWrong)

/-- 'laws.FnGroupTrials': WHATEVER THE INPUT: true; the input reads as it did. -/
def fnGroupTrialsSpec : ChangeSpec := { name := "fnGroupTrials", fn := fun _ => fun
  | [d] => { results := [.lit (.bool true)], args := [d] }
  | _ => none }
def fnGroupTrialsRow : OpenClaim := { program := "ytljofbhokcdklaa", sum := "12f37e8b7cd23605cc4d3c077b809893ae53a811cadbf9725aa5ba30cd50f165", func := "loop.example/g03407/laws.FnGroupTrials", spec := "fnGroupTrials", recurses := true, apart := false }
def FnGroupTrialsSaid : Prop := fnGroupTrialsRow.holds Try.pinned (OpenSpec.ofChange fnGroupTrialsSpec)

/-- ITS FALSE NEIGHBOUR: 'it returns false'. Refute it at one input. -/
def fnGroupTrialsWrong : ChangeSpec := { name := "fnGroupTrials", fn := fun _ => fun
  | [d] => { results := [.lit (.bool false)], args := [d] }
  | _ => none }
def FnGroupTrialsWrongFalsely : Prop := fnGroupTrialsRow.holds Try.pinned (OpenSpec.ofChange fnGroupTrialsWrong)

/-- 'laws.FnTakenBack': WHATEVER THE INPUT: true; the input reads as it did. -/
def fnTakenBackSpec : ChangeSpec := { name := "fnTakenBack", fn := fun _ => fun
  | [d] => { results := [.lit (.bool true)], args := [d] }
  | _ => none }
def fnTakenBackRow : OpenClaim := { program := "ytljofbhokcdklaa", sum := "12f37e8b7cd23605cc4d3c077b809893ae53a811cadbf9725aa5ba30cd50f165", func := "loop.example/g03407/laws.FnTakenBack", spec := "fnTakenBack", unfollowed := true, recurses := true, apart := false }
def FnTakenBackSaid : Prop := fnTakenBackRow.holds Try.pinned (OpenSpec.ofChange fnTakenBackSpec)

/-- ITS FALSE NEIGHBOUR: 'it returns false'. Refute it at one input. -/
def fnTakenBackWrong : ChangeSpec := { name := "fnTakenBack", fn := fun _ => fun
  | [d] => { results := [.lit (.bool false)], args := [d] }
  | _ => none }
def FnTakenBackWrongFalsely : Prop := fnTakenBackRow.holds Try.pinned (OpenSpec.ofChange fnTakenBackWrong)

/-- 'laws.FnOffices': WHATEVER THE INPUT: true; the input reads as it did. -/
def fnOfficesSpec : ChangeSpec := { name := "fnOffices", fn := fun _ => fun
  | [d] => { results := [.lit (.bool true)], args := [d] }
  | _ => none }
def fnOfficesRow : OpenClaim := { program := "ytljofbhokcdklaa", sum := "12f37e8b7cd23605cc4d3c077b809893ae53a811cadbf9725aa5ba30cd50f165", func := "loop.example/g03407/laws.FnOffices", spec := "fnOffices", apart := false }
def FnOfficesSaid : Prop := fnOfficesRow.holds Try.pinned (OpenSpec.ofChange fnOfficesSpec)

/-- ITS FALSE NEIGHBOUR: 'it returns false'. Refute it at one input. -/
def fnOfficesWrong : ChangeSpec := { name := "fnOffices", fn := fun _ => fun
  | [d] => { results := [.lit (.bool false)], args := [d] }
  | _ => none }
def FnOfficesWrongFalsely : Prop := fnOfficesRow.holds Try.pinned (OpenSpec.ofChange fnOfficesWrong)

/- THE SECOND FORM. 'bulk': how many values and letters a reading holds, each counted each time it is reached (what is shared counts as often as it is met; a slice's spare places count too). A statement '..UptoSaid' is the law's where the arguments, and the package variables that the reading takes, are together of bulk at most 1048576: NARROWER than '..Said'. Prove '..Said' where nothing that the law and all that it calls make is longer than what came in: it says more and counts as full. Else prove '..UptoSaid'. A law counts once. -/
mutual
def uptoBulk {H : Type} : DataW H → Nat
  | .lit (.string bytes) => bytes.length + 1
  | .lit _ => 1
  | .nil => 1
  | .ptr d => uptoBulk d + 1
  | .slice elems spare => uptoBulkAll elems + uptoBulkAll spare + 1
  | .agg parts => uptoBulkAll parts + 1
  | .iface _ d => uptoBulk d + 1
  | .map entries => uptoBulkEntries entries + 1
  | .held _ => 1
def uptoBulkAll {H : Type} : List (DataW H) → Nat
  | [] => 0
  | d :: r => uptoBulk d + uptoBulkAll r
def uptoBulkEntries {H : Type} : List (Lit × DataW H) → Nat
  | [] => 0
  | x :: r => uptoBulkEntry x + uptoBulkEntries r
def uptoBulkEntry {H : Type} : Lit × DataW H → Nat
  | (.string bytes, d) => bytes.length + uptoBulk d + 1
  | (_, d) => uptoBulk d + 1
 end
def uptoSmall : (H : Type) → List (DataW H) → Bool := fun _ ds => decide (uptoBulkAll ds ≤ 1048576)
def OpenSpec.upto (s : _root_.Go.ChangeSpec) : _root_.Go.OpenSpec := { _root_.Go.OpenSpec.ofChange s with cond := some uptoSmall }

/-- 'laws.FnExactGroupTrial', WHERE WHAT IT READS IS OF BULK AT MOST 1048576: true; the input reads as it did. -/
def fnExactGroupTrialUptoRow : OpenClaim := { program := "ytljofbhokcdklaa", sum := "12f37e8b7cd23605cc4d3c077b809893ae53a811cadbf9725aa5ba30cd50f165", func := "loop.example/g03407/laws.FnExactGroupTrial", spec := "fnExactGroupTrial", recurses := true, apart := false, narrowed := true }
def FnExactGroupTrialUptoSaid : Prop := fnExactGroupTrialUptoRow.holds Try.pinned (OpenSpec.upto fnExactGroupTrialSpec)

/-- 'laws.FnMovements', WHERE WHAT IT READS IS OF BULK AT MOST 1048576: true; the input reads as it did. -/
def fnMovementsUptoRow : OpenClaim := { program := "ytljofbhokcdklaa", sum := "12f37e8b7cd23605cc4d3c077b809893ae53a811cadbf9725aa5ba30cd50f165", func := "loop.example/g03407/laws.FnMovements", spec := "fnMovements", recurses := true, apart := false, narrowed := true }
def FnMovementsUptoSaid : Prop := fnMovementsUptoRow.holds Try.pinned (OpenSpec.upto fnMovementsSpec)

/-- 'laws.FnGroupTrials', WHERE WHAT IT READS IS OF BULK AT MOST 1048576: true; the input reads as it did. -/
def fnGroupTrialsUptoRow : OpenClaim := { program := "ytljofbhokcdklaa", sum := "12f37e8b7cd23605cc4d3c077b809893ae53a811cadbf9725aa5ba30cd50f165", func := "loop.example/g03407/laws.FnGroupTrials", spec := "fnGroupTrials", recurses := true, apart := false, narrowed := true }
def FnGroupTrialsUptoSaid : Prop := fnGroupTrialsUptoRow.holds Try.pinned (OpenSpec.upto fnGroupTrialsSpec)

/-- 'laws.FnTakenBack', WHERE WHAT IT READS IS OF BULK AT MOST 1048576: true; the input reads as it did. -/
def fnTakenBackUptoRow : OpenClaim := { program := "ytljofbhokcdklaa", sum := "12f37e8b7cd23605cc4d3c077b809893ae53a811cadbf9725aa5ba30cd50f165", func := "loop.example/g03407/laws.FnTakenBack", spec := "fnTakenBack", unfollowed := true, recurses := true, apart := false, narrowed := true }
def FnTakenBackUptoSaid : Prop := fnTakenBackUptoRow.holds Try.pinned (OpenSpec.upto fnTakenBackSpec)

/-- 'laws.FnOffices', WHERE WHAT IT READS IS OF BULK AT MOST 1048576: true; the input reads as it did. -/
def fnOfficesUptoRow : OpenClaim := { program := "ytljofbhokcdklaa", sum := "12f37e8b7cd23605cc4d3c077b809893ae53a811cadbf9725aa5ba30cd50f165", func := "loop.example/g03407/laws.FnOffices", spec := "fnOffices", apart := false, narrowed := true }
def FnOfficesUptoSaid : Prop := fnOfficesUptoRow.holds Try.pinned (OpenSpec.upto fnOfficesSpec)

end Rows
end Go.Proofs.Ytljofbhokcdklaa
