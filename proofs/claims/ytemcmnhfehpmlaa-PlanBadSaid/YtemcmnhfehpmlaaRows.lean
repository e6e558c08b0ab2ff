/-
  No cell of these rows narrows 'for every input' (looked for: loops, veiled, ifaces, maps, wideKeys, modest, calm, conditions, laid).
  DERIVED. THE GIVEN ROWS OF THIS SEAT. 6 by the template 'for every input the law returns true; each argument reads behind the call as it read before'; 0 by the template 'total and deterministic' (their statements: YtemcmnhfehpmlaaTotals.lean).
  GIVEN WITH THE SEED: the statements are not yours to turn. If you find one false, say at which input.
  Laid BY PROGRAM, IN A SANDBOX (cutbox-rows.mjs): the forced cells as the released guide's own fill.sh prints them over the translation 813dd50a56e16621… (all of the seat's roots in one cut). By AI agents, Wed Nov 11 2026. No macro, syntax, notation, axiom, sorry.
-/
import Derived.Test.YtemcmnhfehpmlaaChecked
import GoSem.Claim
import GoSem.ClaimJoined
import GoSem.ClaimMapViews
import Derived.JoinedTies
import Derived.KernelRfl
namespace Go.Proofs.Ytemcmnhfehpmlaa
/- THE CELL 'sum', in the pinned program and in every row, IS THE sha256 OF THE DUMP (.gsa) THAT YtemcmnhfehpmlaaProg.lean LOADS. Nothing in Lean hashes anything: it is a label: what it is worth is what the hold of that sum in a sandbox is worth. -/
noncomputable def Try.pinned : Pinned := { name := "ytemcmnhfehpmlaa", sum := "813dd50a56e166219bd326e625db7202d0f930e9cdc68a4a477053d76c522e61", checked := Try.checked }
namespace Rows
def none {H : Type} : Left H := { results := [], args := [] }

/-- 'scullerylaw10.PlanFits': WHATEVER THE INPUT: true; the input reads as it did. -/
def planFitsSpec : ChangeSpec := { name := "planFits", fn := fun _ => fun
  | [d1, d2, d3, d4] => { results := [.lit (.bool true)], args := [d1, d2, d3, d4] }
  | _ => none }
def planFitsRow : OpenClaim := { program := "ytemcmnhfehpmlaa", sum := "813dd50a56e166219bd326e625db7202d0f930e9cdc68a4a477053d76c522e61", func := "scullery/scullerylaw10.PlanFits", spec := "planFits", apart := false }
def PlanFitsSaid : Prop := planFitsRow.holds Try.pinned (OpenSpec.ofChange planFitsSpec)

/-- ITS FALSE NEIGHBOUR: 'it returns false'. Refute it at one input. -/
def planFitsWrong : ChangeSpec := { name := "planFits", fn := fun _ => fun
  | [d1, d2, d3, d4] => { results := [.lit (.bool false)], args := [d1, d2, d3, d4] }
  | _ => none }
def PlanFitsWrongFalsely : Prop := planFitsRow.holds Try.pinned (OpenSpec.ofChange planFitsWrong)

/-- 'scullerylaw10.PlanPlaces': WHATEVER THE INPUT: true; the input reads as it did. -/
def planPlacesSpec : ChangeSpec := { name := "planPlaces", fn := fun _ => fun
  | [d1, d2, d3, d4] => { results := [.lit (.bool true)], args := [d1, d2, d3, d4] }
  | _ => none }
def planPlacesRow : OpenClaim := { program := "ytemcmnhfehpmlaa", sum := "813dd50a56e166219bd326e625db7202d0f930e9cdc68a4a477053d76c522e61", func := "scullery/scullerylaw10.PlanPlaces", spec := "planPlaces", apart := false }
def PlanPlacesSaid : Prop := planPlacesRow.holds Try.pinned (OpenSpec.ofChange planPlacesSpec)

/-- ITS FALSE NEIGHBOUR: 'it returns false'. Refute it at one input. -/
def planPlacesWrong : ChangeSpec := { name := "planPlaces", fn := fun _ => fun
  | [d1, d2, d3, d4] => { results := [.lit (.bool false)], args := [d1, d2, d3, d4] }
  | _ => none }
def PlanPlacesWrongFalsely : Prop := planPlacesRow.holds Try.pinned (OpenSpec.ofChange planPlacesWrong)

/-- 'scullerylaw10.PlanGrows': WHATEVER THE INPUT: true; the input reads as it did. -/
def planGrowsSpec : ChangeSpec := { name := "planGrows", fn := fun _ => fun
  | [d1, d2, d3] => { results := [.lit (.bool true)], args := [d1, d2, d3] }
  | _ => none }
def planGrowsRow : OpenClaim := { program := "ytemcmnhfehpmlaa", sum := "813dd50a56e166219bd326e625db7202d0f930e9cdc68a4a477053d76c522e61", func := "scullery/scullerylaw10.PlanGrows", spec := "planGrows", apart := false }
def PlanGrowsSaid : Prop := planGrowsRow.holds Try.pinned (OpenSpec.ofChange planGrowsSpec)

/-- ITS FALSE NEIGHBOUR: 'it returns false'. Refute it at one input. -/
def planGrowsWrong : ChangeSpec := { name := "planGrows", fn := fun _ => fun
  | [d1, d2, d3] => { results := [.lit (.bool false)], args := [d1, d2, d3] }
  | _ => none }
def PlanGrowsWrongFalsely : Prop := planGrowsRow.holds Try.pinned (OpenSpec.ofChange planGrowsWrong)

/-- 'scullerylaw10.PlanChecks': WHATEVER THE INPUT: true; the input reads as it did. -/
def planChecksSpec : ChangeSpec := { name := "planChecks", fn := fun _ => fun
  | [d1, d2, d3] => { results := [.lit (.bool true)], args := [d1, d2, d3] }
  | _ => none }
def planChecksRow : OpenClaim := { program := "ytemcmnhfehpmlaa", sum := "813dd50a56e166219bd326e625db7202d0f930e9cdc68a4a477053d76c522e61", func := "scullery/scullerylaw10.PlanChecks", spec := "planChecks", apart := false }
def PlanChecksSaid : Prop := planChecksRow.holds Try.pinned (OpenSpec.ofChange planChecksSpec)

/-- ITS FALSE NEIGHBOUR: 'it returns false'. Refute it at one input. -/
def planChecksWrong : ChangeSpec := { name := "planChecks", fn := fun _ => fun
  | [d1, d2, d3] => { results := [.lit (.bool false)], args := [d1, d2, d3] }
  | _ => none }
def PlanChecksWrongFalsely : Prop := planChecksRow.holds Try.pinned (OpenSpec.ofChange planChecksWrong)

/-- 'scullerylaw10.PlanTells': WHATEVER THE INPUT: true; the input reads as it did. -/
def planTellsSpec : ChangeSpec := { name := "planTells", fn := fun _ => fun
  | [d1, d2, d3, d4, d5, d6] => { results := [.lit (.bool true)], args := [d1, d2, d3, d4, d5, d6] }
  | _ => none }
def planTellsRow : OpenClaim := { program := "ytemcmnhfehpmlaa", sum := "813dd50a56e166219bd326e625db7202d0f930e9cdc68a4a477053d76c522e61", func := "scullery/scullerylaw10.PlanTells", spec := "planTells", apart := false }
def PlanTellsSaid : Prop := planTellsRow.holds Try.pinned (OpenSpec.ofChange planTellsSpec)

/-- ITS FALSE NEIGHBOUR: 'it returns false'. Refute it at one input. -/
def planTellsWrong : ChangeSpec := { name := "planTells", fn := fun _ => fun
  | [d1, d2, d3, d4, d5, d6] => { results := [.lit (.bool false)], args := [d1, d2, d3, d4, d5, d6] }
  | _ => none }
def PlanTellsWrongFalsely : Prop := planTellsRow.holds Try.pinned (OpenSpec.ofChange planTellsWrong)

/-- 'scullerylaw10.PlanBad': WHATEVER THE INPUT: true; the input reads as it did. -/
def planBadSpec : ChangeSpec := { name := "planBad", fn := fun _ => fun
  | [d1, d2, d3, d4, d5] => { results := [.lit (.bool true)], args := [d1, d2, d3, d4, d5] }
  | _ => none }
def planBadRow : OpenClaim := { program := "ytemcmnhfehpmlaa", sum := "813dd50a56e166219bd326e625db7202d0f930e9cdc68a4a477053d76c522e61", func := "scullery/scullerylaw10.PlanBad", spec := "planBad", apart := false }
def PlanBadSaid : Prop := planBadRow.holds Try.pinned (OpenSpec.ofChange planBadSpec)

/-- ITS FALSE NEIGHBOUR: 'it returns false'. Refute it at one input. -/
def planBadWrong : ChangeSpec := { name := "planBad", fn := fun _ => fun
  | [d1, d2, d3, d4, d5] => { results := [.lit (.bool false)], args := [d1, d2, d3, d4, d5] }
  | _ => none }
def PlanBadWrongFalsely : Prop := planBadRow.holds Try.pinned (OpenSpec.ofChange planBadWrong)

/- THE SECOND FORM. 'bulk': how many values and letters a reading holds, each counted each time it is reached (what is shared counts as often as it is met; a slice's spare places count too). A statement '..UptoSaid' is the law's where the arguments, and the package variables that the reading takes, are together of bulk at most 1048576: NARROWER than '..Said'. Prove '..Said' where nothing that the law and all that it calls make is longer than what came in: it says more and counts as full. Else prove '..UptoSaid'. A law counts once. -/
mutual
def uptoBulk {H : Type} : DataW H → Nat
  | .lit (.string bytes) => bytes.length + 1
  | .lit _ => 1
  | .nil => 1
  | .ptr d => uptoBulk d + 1
  | .slice elems spare => uptoBulkAll elems + uptoBulkAll spare + 1
  | .agg parts => uptoBulkAll parts + 1
  | .iface _ d => uptoBulk d + 1
  | .map entries => uptoBulkEntries entries + 1
  | .held _ => 1
def uptoBulkAll {H : Type} : List (DataW H) → Nat
  | [] => 0
  | d :: r => uptoBulk d + uptoBulkAll r
def uptoBulkEntries {H : Type} : List (Lit × DataW H) → Nat
  | [] => 0
  | x :: r => uptoBulkEntry x + uptoBulkEntries r
def uptoBulkEntry {H : Type} : Lit × DataW H → Nat
  | (.string bytes, d) => bytes.length + uptoBulk d + 1
  | (_, d) => uptoBulk d + 1
 end
def uptoSmall : (H : Type) → List (DataW H) → Bool := fun _ ds => decide (uptoBulkAll ds ≤ 1048576)
def OpenSpec.upto (s : _root_.Go.ChangeSpec) : _root_.Go.OpenSpec := { _root_.Go.OpenSpec.ofChange s with cond := some uptoSmall }

/-- 'scullerylaw10.PlanFits', WHERE WHAT IT READS IS OF BULK AT MOST 1048576: true; the input reads as it did. -/
def planFitsUptoRow : OpenClaim := { program := "ytemcmnhfehpmlaa", sum := "813dd50a56e166219bd326e625db7202d0f930e9cdc68a4a477053d76c522e61", func := "scullery/scullerylaw10.PlanFits", spec := "planFits", apart := false, narrowed := true }
def PlanFitsUptoSaid : Prop := planFitsUptoRow.holds Try.pinned (OpenSpec.upto planFitsSpec)

/-- 'scullerylaw10.PlanPlaces', WHERE WHAT IT READS IS OF BULK AT MOST 1048576: true; the input reads as it did. -/
def planPlacesUptoRow : OpenClaim := { program := "ytemcmnhfehpmlaa", sum := "813dd50a56e166219bd326e625db7202d0f930e9cdc68a4a477053d76c522e61", func := "scullery/scullerylaw10.PlanPlaces", spec := "planPlaces", apart := false, narrowed := true }
def PlanPlacesUptoSaid : Prop := planPlacesUptoRow.holds Try.pinned (OpenSpec.upto planPlacesSpec)

/-- 'scullerylaw10.PlanGrows', WHERE WHAT IT READS IS OF BULK AT MOST 1048576: true; the input reads as it did. -/
def planGrowsUptoRow : OpenClaim := { program := "ytemcmnhfehpmlaa", sum := "813dd50a56e166219bd326e625db7202d0f930e9cdc68a4a477053d76c522e61", func := "scullery/scullerylaw10.PlanGrows", spec := "planGrows", apart := false, narrowed := true }
def PlanGrowsUptoSaid : Prop := planGrowsUptoRow.holds Try.pinned (OpenSpec.upto planGrowsSpec)

/-- 'scullerylaw10.PlanChecks', WHERE WHAT IT READS IS OF BULK AT MOST 1048576: true; the input reads as it did. -/
def planChecksUptoRow : OpenClaim := { program := "ytemcmnhfehpmlaa", sum := "813dd50a56e166219bd326e625db7202d0f930e9cdc68a4a477053d76c522e61", func := "scullery/scullerylaw10.PlanChecks", spec := "planChecks", apart := false, narrowed := true }
def PlanChecksUptoSaid : Prop := planChecksUptoRow.holds Try.pinned (OpenSpec.upto planChecksSpec)

/-- 'scullerylaw10.PlanTells', WHERE WHAT IT READS IS OF BULK AT MOST 1048576: true; the input reads as it did. -/
def planTellsUptoRow : OpenClaim := { program := "ytemcmnhfehpmlaa", sum := "813dd50a56e166219bd326e625db7202d0f930e9cdc68a4a477053d76c522e61", func := "scullery/scullerylaw10.PlanTells", spec := "planTells", apart := false, narrowed := true }
def PlanTellsUptoSaid : Prop := planTellsUptoRow.holds Try.pinned (OpenSpec.upto planTellsSpec)

/-- 'scullerylaw10.PlanBad', WHERE WHAT IT READS IS OF BULK AT MOST 1048576: true; the input reads as it did. -/
def planBadUptoRow : OpenClaim := { program := "ytemcmnhfehpmlaa", sum := "813dd50a56e166219bd326e625db7202d0f930e9cdc68a4a477053d76c522e61", func := "scullery/scullerylaw10.PlanBad", spec := "planBad", apart := false, narrowed := true }
def PlanBadUptoSaid : Prop := planBadUptoRow.holds Try.pinned (OpenSpec.upto planBadSpec)

end Rows
end Go.Proofs.Ytemcmnhfehpmlaa
