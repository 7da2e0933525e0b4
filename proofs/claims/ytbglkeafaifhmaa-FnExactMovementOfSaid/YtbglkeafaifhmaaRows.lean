/-
  No cell of these rows narrows 'for every input' (looked for: loops, veiled, ifaces, maps, wideKeys, modest, calm, conditions, laid).
  DERIVED. THE GIVEN ROWS OF THIS SEAT. 3 by the template 'for every input the law returns true; each argument reads behind the call as it read before'; 0 by the template 'total and deterministic' (their statements: YtbglkeafaifhmaaTotals.lean).
  GIVEN WITH THE SEED: the statements are not yours to turn. If you find one false, say at which input.
  Laid BY PROGRAM, IN A SANDBOX (cutbox-rows.mjs): the forced cells as the released guide's own fill.sh prints them over the translation 2a3ffc2c3a3de4d8… (all of the seat's roots in one cut). By AI agents, Wed Nov 11 2026. No macro, syntax, notation, axiom, sorry.
-/
import Derived.Test.YtbglkeafaifhmaaChecked
import GoSem.Claim
import GoSem.ClaimJoined
import GoSem.ClaimMapViews
import Derived.JoinedTies
import Derived.KernelRfl
namespace Go.Proofs.Ytbglkeafaifhmaa
/- THE CELL 'sum', in the pinned program and in every row, IS THE sha256 OF THE DUMP (.gsa) THAT YtbglkeafaifhmaaProg.lean LOADS. Nothing in Lean hashes anything: it is a label: what it is worth is what the hold of that sum in a sandbox is worth. -/
noncomputable def Try.pinned : Pinned := { name := "ytbglkeafaifhmaa", sum := "2a3ffc2c3a3de4d8153862684b91c039b7b86e6bb505abd2fa2bb00b6d92a12a", checked := Try.checked }
namespace Rows
def none {H : Type} : Left H := { results := [], args := [] }

/-- 'laws.FnExactFirmDealings': WHATEVER THE INPUT: true; the input reads as it did. -/
def fnExactFirmDealingsSpec : ChangeSpec := { name := "fnExactFirmDealings", fn := fun _ => fun
  | [d1, d2, d3] => { results := [.lit (.bool true)], args := [d1, d2, d3] }
  | _ => none }
def fnExactFirmDealingsRow : OpenClaim := { program := "ytbglkeafaifhmaa", sum := "2a3ffc2c3a3de4d8153862684b91c039b7b86e6bb505abd2fa2bb00b6d92a12a", func := "loop.example/g03407/laws.FnExactFirmDealings", spec := "fnExactFirmDealings", recurses := true, apart := false }
def FnExactFirmDealingsSaid : Prop := fnExactFirmDealingsRow.holds Try.pinned (OpenSpec.ofChange fnExactFirmDealingsSpec)

/-- ITS FALSE NEIGHBOUR: 'it returns false'. Refute it at one input. -/
def fnExactFirmDealingsWrong : ChangeSpec := { name := "fnExactFirmDealings", fn := fun _ => fun
  | [d1, d2, d3] => { results := [.lit (.bool false)], args := [d1, d2, d3] }
  | _ => none }
def FnExactFirmDealingsWrongFalsely : Prop := fnExactFirmDealingsRow.holds Try.pinned (OpenSpec.ofChange fnExactFirmDealingsWrong)

/-- 'laws.FnExactJoinTrials': WHATEVER THE INPUT: true; the input reads as it did. -/
def fnExactJoinTrialsSpec : ChangeSpec := { name := "fnExactJoinTrials", fn := fun _ => fun
  | [d] => { results := [.lit (.bool true)], args := [d] }
  | _ => none }
def fnExactJoinTrialsRow : OpenClaim := { program := "ytbglkeafaifhmaa", sum := "2a3ffc2c3a3de4d8153862684b91c039b7b86e6bb505abd2fa2bb00b6d92a12a", func := "loop.example/g03407/laws.FnExactJoinTrials", spec := "fnExactJoinTrials", recurses := true, apart := false }
def FnExactJoinTrialsSaid : Prop := fnExactJoinTrialsRow.holds Try.pinned (OpenSpec.ofChange fnExactJoinTrialsSpec)

/-- ITS FALSE NEIGHBOUR: 'it returns false'. Refute it at one input. -/
def fnExactJoinTrialsWrong : ChangeSpec := { name := "fnExactJoinTrials", fn := fun _ => fun
  | [d] => { results := [.lit (.bool false)], args := [d] }
  | _ => none }
def FnExactJoinTrialsWrongFalsely : Prop := fnExactJoinTrialsRow.holds Try.pinned (OpenSpec.ofChange fnExactJoinTrialsWrong)

/-- 'laws.FnExactMovementOf': WHATEVER THE INPUT: true; the input reads as it did. -/
def fnExactMovementOfSpec : ChangeSpec := { name := "fnExactMovementOf", fn := fun _ => fun
  | [d1, d2, d3] => { results := [.lit (.bool true)], args := [d1, d2, d3] }
  | _ => none }
def fnExactMovementOfRow : OpenClaim := { program := "ytbglkeafaifhmaa", sum := "2a3ffc2c3a3de4d8153862684b91c039b7b86e6bb505abd2fa2bb00b6d92a12a", func := "loop.example/g03407/laws.FnExactMovementOf", spec := "fnExactMovementOf", recurses := true, apart := false }
def FnExactMovementOfSaid : Prop := fnExactMovementOfRow.holds Try.pinned (OpenSpec.ofChange fnExactMovementOfSpec)

/-- ITS FALSE NEIGHBOUR: 'it returns false'. Refute it at one input. -/
def fnExactMovementOfWrong : ChangeSpec := { name := "fnExactMovementOf", fn := fun _ => fun
  | [d1, d2, d3] => { results := [.lit (.bool false)], args := [d1, d2, d3] }
  | _ => none }
def FnExactMovementOfWrongFalsely : Prop := fnExactMovementOfRow.holds Try.pinned (OpenSpec.ofChange fnExactMovementOfWrong)

/- THE SECOND FORM. 'bulk': how many values and letters a reading holds, each counted each time it is reached (what is shared counts as often as it is met; a slice's spare places count too). A statement '..UptoSaid' is the law's where the arguments, and the package variables that the reading takes, are together of bulk at most 1048576: NARROWER than '..Said'. Prove '..Said' where nothing that the law and all that it calls make is longer than what came in: it says more and counts as full. Else prove '..UptoSaid'. A law counts once. -/
mutual
def uptoBulk {H : Type} : DataW H → Nat
  | .lit (.string bytes) => bytes.length + 1
  | .lit _ => 1
  | .nil => 1
  | .ptr d => uptoBulk d + 1
  | .slice elems spare => uptoBulkAll elems + uptoBulkAll spare + 1
  | .agg parts => uptoBulkAll parts + 1
  | .iface _ d => uptoBulk d + 1
  | .map entries => uptoBulkEntries entries + 1
  | .held _ => 1
def uptoBulkAll {H : Type} : List (DataW H) → Nat
  | [] => 0
  | d :: r => uptoBulk d + uptoBulkAll r
def uptoBulkEntries {H : Type} : List (Lit × DataW H) → Nat
  | [] => 0
  | x :: r => uptoBulkEntry x + uptoBulkEntries r
def uptoBulkEntry {H : Type} : Lit × DataW H → Nat
  | (.string bytes, d) => bytes.length + uptoBulk d + 1
  | (_, d) => uptoBulk d + 1
 end
def uptoSmall : (H : Type) → List (DataW H) → Bool := fun _ ds => decide (uptoBulkAll ds ≤ 1048576)
def OpenSpec.upto (s : _root_.Go.ChangeSpec) : _root_.Go.OpenSpec := { _root_.Go.OpenSpec.ofChange s with cond := some uptoSmall }

/-- 'laws.FnExactFirmDealings', WHERE WHAT IT READS IS OF BULK AT MOST 1048576: true; the input reads as it did. -/
def fnExactFirmDealingsUptoRow : OpenClaim := { program := "ytbglkeafaifhmaa", sum := "2a3ffc2c3a3de4d8153862684b91c039b7b86e6bb505abd2fa2bb00b6d92a12a", func := "loop.example/g03407/laws.FnExactFirmDealings", spec := "fnExactFirmDealings", recurses := true, apart := false, narrowed := true }
def FnExactFirmDealingsUptoSaid : Prop := fnExactFirmDealingsUptoRow.holds Try.pinned (OpenSpec.upto fnExactFirmDealingsSpec)

/-- 'laws.FnExactJoinTrials', WHERE WHAT IT READS IS OF BULK AT MOST 1048576: true; the input reads as it did. -/
def fnExactJoinTrialsUptoRow : OpenClaim := { program := "ytbglkeafaifhmaa", sum := "2a3ffc2c3a3de4d8153862684b91c039b7b86e6bb505abd2fa2bb00b6d92a12a", func := "loop.example/g03407/laws.FnExactJoinTrials", spec := "fnExactJoinTrials", recurses := true, apart := false, narrowed := true }
def FnExactJoinTrialsUptoSaid : Prop := fnExactJoinTrialsUptoRow.holds Try.pinned (OpenSpec.upto fnExactJoinTrialsSpec)

/-- 'laws.FnExactMovementOf', WHERE WHAT IT READS IS OF BULK AT MOST 1048576: true; the input reads as it did. -/
def fnExactMovementOfUptoRow : OpenClaim := { program := "ytbglkeafaifhmaa", sum := "2a3ffc2c3a3de4d8153862684b91c039b7b86e6bb505abd2fa2bb00b6d92a12a", func := "loop.example/g03407/laws.FnExactMovementOf", spec := "fnExactMovementOf", recurses := true, apart := false, narrowed := true }
def FnExactMovementOfUptoSaid : Prop := fnExactMovementOfUptoRow.holds Try.pinned (OpenSpec.upto fnExactMovementOfSpec)

end Rows
end Go.Proofs.Ytbglkeafaifhmaa
