/-
  No cell of these rows narrows 'for every input' (looked for: loops, veiled, ifaces, maps, wideKeys, modest, calm, conditions, laid).
  DERIVED. THE GIVEN ROWS OF THIS SEAT. 8 by the template 'for every input the law returns true; each argument reads behind the call as it read before'; 0 by the template 'total and deterministic' (their statements: YtbahngmjbpaglaaTotals.lean).
  GIVEN WITH THE SEED: the statements are not yours to turn. If you find one false, say at which input.
  Laid BY PROGRAM, IN A SANDBOX (cutbox-rows.mjs): the forced cells as the released guide's own fill.sh prints them over the translation 26832f0b95c94aaa… (all of the seat's roots in one cut). By AI agents, Wed Nov 11 2026. No macro, syntax, notation, axiom, sorry.
-/
import Derived.Test.YtbahngmjbpaglaaChecked
import GoSem.Claim
import GoSem.ClaimJoined
import GoSem.ClaimMapViews
import Derived.JoinedTies
import Derived.KernelRfl
namespace Go.Proofs.Ytbahngmjbpaglaa
/- THE CELL 'sum', in the pinned program and in every row, IS THE sha256 OF THE DUMP (.gsa) THAT YtbahngmjbpaglaaProg.lean LOADS. Nothing in Lean hashes anything: it is a label: what it is worth is what the hold of that sum in a sandbox is worth. -/
noncomputable def Try.pinned : Pinned := { name := "ytbahngmjbpaglaa", sum := "26832f0b95c94aaa986ef67f8a75017a3fcd0c6416bf7a33ec6def672225a994", checked := Try.checked }
namespace Rows
def none {H : Type} : Left H := { results := [], args := [] }

/-- 'scullerylaw12.WearTells': WHATEVER THE INPUT: true; the input reads as it did. -/
def wearTellsSpec : ChangeSpec := { name := "wearTells", fn := fun _ => fun
  | [d1, d2] => { results := [.lit (.bool true)], args := [d1, d2] }
  | _ => none }
def wearTellsRow : OpenClaim := { program := "ytbahngmjbpaglaa", sum := "26832f0b95c94aaa986ef67f8a75017a3fcd0c6416bf7a33ec6def672225a994", func := "scullery/scullerylaw12.WearTells", spec := "wearTells", unfollowed := true, recurses := true, apart := false }
def WearTellsSaid : Prop := wearTellsRow.holds Try.pinned (OpenSpec.ofChange wearTellsSpec)

/-- ITS FALSE NEIGHBOUR: 'it returns false'. Refute it at one input. -/
def wearTellsWrong : ChangeSpec := { name := "wearTells", fn := fun _ => fun
  | [d1, d2] => { results := [.lit (.bool false)], args := [d1, d2] }
  | _ => none }
def WearTellsWrongFalsely : Prop := wearTellsRow.holds Try.pinned (OpenSpec.ofChange wearTellsWrong)

/-- 'scullerylaw12.WearEvens': WHATEVER THE INPUT: true; the input reads as it did. -/
def wearEvensSpec : ChangeSpec := { name := "wearEvens", fn := fun _ => fun
  | [d1, d2] => { results := [.lit (.bool true)], args := [d1, d2] }
  | _ => none }
def wearEvensRow : OpenClaim := { program := "ytbahngmjbpaglaa", sum := "26832f0b95c94aaa986ef67f8a75017a3fcd0c6416bf7a33ec6def672225a994", func := "scullery/scullerylaw12.WearEvens", spec := "wearEvens", unfollowed := true, recurses := true, apart := false }
def WearEvensSaid : Prop := wearEvensRow.holds Try.pinned (OpenSpec.ofChange wearEvensSpec)

/-- ITS FALSE NEIGHBOUR: 'it returns false'. Refute it at one input. -/
def wearEvensWrong : ChangeSpec := { name := "wearEvens", fn := fun _ => fun
  | [d1, d2] => { results := [.lit (.bool false)], args := [d1, d2] }
  | _ => none }
def WearEvensWrongFalsely : Prop := wearEvensRow.holds Try.pinned (OpenSpec.ofChange wearEvensWrong)

/-- 'scullerylaw12.WearShifts': WHATEVER THE INPUT: true; the input reads as it did. -/
def wearShiftsSpec : ChangeSpec := { name := "wearShifts", fn := fun _ => fun
  | [d1, d2, d3, d4] => { results := [.lit (.bool true)], args := [d1, d2, d3, d4] }
  | _ => none }
def wearShiftsRow : OpenClaim := { program := "ytbahngmjbpaglaa", sum := "26832f0b95c94aaa986ef67f8a75017a3fcd0c6416bf7a33ec6def672225a994", func := "scullery/scullerylaw12.WearShifts", spec := "wearShifts", unfollowed := true, recurses := true, apart := false }
def WearShiftsSaid : Prop := wearShiftsRow.holds Try.pinned (OpenSpec.ofChange wearShiftsSpec)

/-- ITS FALSE NEIGHBOUR: 'it returns false'. Refute it at one input. -/
def wearShiftsWrong : ChangeSpec := { name := "wearShifts", fn := fun _ => fun
  | [d1, d2, d3, d4] => { results := [.lit (.bool false)], args := [d1, d2, d3, d4] }
  | _ => none }
def WearShiftsWrongFalsely : Prop := wearShiftsRow.holds Try.pinned (OpenSpec.ofChange wearShiftsWrong)

/-- 'scullerylaw12.WearPicks': WHATEVER THE INPUT: true; the input reads as it did. -/
def wearPicksSpec : ChangeSpec := { name := "wearPicks", fn := fun _ => fun
  | [d1, d2] => { results := [.lit (.bool true)], args := [d1, d2] }
  | _ => none }
def wearPicksRow : OpenClaim := { program := "ytbahngmjbpaglaa", sum := "26832f0b95c94aaa986ef67f8a75017a3fcd0c6416bf7a33ec6def672225a994", func := "scullery/scullerylaw12.WearPicks", spec := "wearPicks", unfollowed := true, recurses := true, apart := false }
def WearPicksSaid : Prop := wearPicksRow.holds Try.pinned (OpenSpec.ofChange wearPicksSpec)

/-- ITS FALSE NEIGHBOUR: 'it returns false'. Refute it at one input. -/
def wearPicksWrong : ChangeSpec := { name := "wearPicks", fn := fun _ => fun
  | [d1, d2] => { results := [.lit (.bool false)], args := [d1, d2] }
  | _ => none }
def WearPicksWrongFalsely : Prop := wearPicksRow.holds Try.pinned (OpenSpec.ofChange wearPicksWrong)

/-- 'scullerylaw15.VictimTells': WHATEVER THE INPUT: true; the input reads as it did. -/
def victimTellsSpec : ChangeSpec := { name := "victimTells", fn := fun _ => fun
  | [d1, d2] => { results := [.lit (.bool true)], args := [d1, d2] }
  | _ => none }
def victimTellsRow : OpenClaim := { program := "ytbahngmjbpaglaa", sum := "26832f0b95c94aaa986ef67f8a75017a3fcd0c6416bf7a33ec6def672225a994", func := "scullery/scullerylaw15.VictimTells", spec := "victimTells", unfollowed := true, recurses := true, apart := false }
def VictimTellsSaid : Prop := victimTellsRow.holds Try.pinned (OpenSpec.ofChange victimTellsSpec)

/-- ITS FALSE NEIGHBOUR: 'it returns false'. Refute it at one input. -/
def victimTellsWrong : ChangeSpec := { name := "victimTells", fn := fun _ => fun
  | [d1, d2] => { results := [.lit (.bool false)], args := [d1, d2] }
  | _ => none }
def VictimTellsWrongFalsely : Prop := victimTellsRow.holds Try.pinned (OpenSpec.ofChange victimTellsWrong)

/-- 'scullerylaw15.VictimLeast': WHATEVER THE INPUT: true; the input reads as it did. -/
def victimLeastSpec : ChangeSpec := { name := "victimLeast", fn := fun _ => fun
  | [d] => { results := [.lit (.bool true)], args := [d] }
  | _ => none }
def victimLeastRow : OpenClaim := { program := "ytbahngmjbpaglaa", sum := "26832f0b95c94aaa986ef67f8a75017a3fcd0c6416bf7a33ec6def672225a994", func := "scullery/scullerylaw15.VictimLeast", spec := "victimLeast", unfollowed := true, recurses := true, apart := false }
def VictimLeastSaid : Prop := victimLeastRow.holds Try.pinned (OpenSpec.ofChange victimLeastSpec)

/-- ITS FALSE NEIGHBOUR: 'it returns false'. Refute it at one input. -/
def victimLeastWrong : ChangeSpec := { name := "victimLeast", fn := fun _ => fun
  | [d] => { results := [.lit (.bool false)], args := [d] }
  | _ => none }
def VictimLeastWrongFalsely : Prop := victimLeastRow.holds Try.pinned (OpenSpec.ofChange victimLeastWrong)

/-- 'scullerylaw15.VictimTurned': WHATEVER THE INPUT: true; the input reads as it did. -/
def victimTurnedSpec : ChangeSpec := { name := "victimTurned", fn := fun _ => fun
  | [d1, d2] => { results := [.lit (.bool true)], args := [d1, d2] }
  | _ => none }
def victimTurnedRow : OpenClaim := { program := "ytbahngmjbpaglaa", sum := "26832f0b95c94aaa986ef67f8a75017a3fcd0c6416bf7a33ec6def672225a994", func := "scullery/scullerylaw15.VictimTurned", spec := "victimTurned", unfollowed := true, recurses := true, apart := false }
def VictimTurnedSaid : Prop := victimTurnedRow.holds Try.pinned (OpenSpec.ofChange victimTurnedSpec)

/-- ITS FALSE NEIGHBOUR: 'it returns false'. Refute it at one input. -/
def victimTurnedWrong : ChangeSpec := { name := "victimTurned", fn := fun _ => fun
  | [d1, d2] => { results := [.lit (.bool false)], args := [d1, d2] }
  | _ => none }
def VictimTurnedWrongFalsely : Prop := victimTurnedRow.holds Try.pinned (OpenSpec.ofChange victimTurnedWrong)

/-- 'scullerylaw15.VictimOthers': WHATEVER THE INPUT: true; the input reads as it did. -/
def victimOthersSpec : ChangeSpec := { name := "victimOthers", fn := fun _ => fun
  | [d1, d2, d3, d4] => { results := [.lit (.bool true)], args := [d1, d2, d3, d4] }
  | _ => none }
def victimOthersRow : OpenClaim := { program := "ytbahngmjbpaglaa", sum := "26832f0b95c94aaa986ef67f8a75017a3fcd0c6416bf7a33ec6def672225a994", func := "scullery/scullerylaw15.VictimOthers", spec := "victimOthers", unfollowed := true, recurses := true, apart := false }
def VictimOthersSaid : Prop := victimOthersRow.holds Try.pinned (OpenSpec.ofChange victimOthersSpec)

/-- ITS FALSE NEIGHBOUR: 'it returns false'. Refute it at one input. -/
def victimOthersWrong : ChangeSpec := { name := "victimOthers", fn := fun _ => fun
  | [d1, d2, d3, d4] => { results := [.lit (.bool false)], args := [d1, d2, d3, d4] }
  | _ => none }
def VictimOthersWrongFalsely : Prop := victimOthersRow.holds Try.pinned (OpenSpec.ofChange victimOthersWrong)

/- THE SECOND FORM. 'bulk': how many values and letters a reading holds, each counted each time it is reached (what is shared counts as often as it is met; a slice's spare places count too). A statement '..UptoSaid' is the law's where the arguments, and the package variables that the reading takes, are together of bulk at most 1048576: NARROWER than '..Said'. Prove '..Said' where nothing that the law and all that it calls make is longer than what came in: it says more and counts as full. Else prove '..UptoSaid'. A law counts once. -/
mutual
def uptoBulk {H : Type} : DataW H → Nat
  | .lit (.string bytes) => bytes.length + 1
  | .lit _ => 1
  | .nil => 1
  | .ptr d => uptoBulk d + 1
  | .slice elems spare => uptoBulkAll elems + uptoBulkAll spare + 1
  | .agg parts => uptoBulkAll parts + 1
  | .iface _ d => uptoBulk d + 1
  | .map entries => uptoBulkEntries entries + 1
  | .held _ => 1
def uptoBulkAll {H : Type} : List (DataW H) → Nat
  | [] => 0
  | d :: r => uptoBulk d + uptoBulkAll r
def uptoBulkEntries {H : Type} : List (Lit × DataW H) → Nat
  | [] => 0
  | x :: r => uptoBulkEntry x + uptoBulkEntries r
def uptoBulkEntry {H : Type} : Lit × DataW H → Nat
  | (.string bytes, d) => bytes.length + uptoBulk d + 1
  | (_, d) => uptoBulk d + 1
 end
def uptoSmall : (H : Type) → List (DataW H) → Bool := fun _ ds => decide (uptoBulkAll ds ≤ 1048576)
def OpenSpec.upto (s : _root_.Go.ChangeSpec) : _root_.Go.OpenSpec := { _root_.Go.OpenSpec.ofChange s with cond := some uptoSmall }

/-- 'scullerylaw12.WearTells', WHERE WHAT IT READS IS OF BULK AT MOST 1048576: true; the input reads as it did. -/
def wearTellsUptoRow : OpenClaim := { program := "ytbahngmjbpaglaa", sum := "26832f0b95c94aaa986ef67f8a75017a3fcd0c6416bf7a33ec6def672225a994", func := "scullery/scullerylaw12.WearTells", spec := "wearTells", unfollowed := true, recurses := true, apart := false, narrowed := true }
def WearTellsUptoSaid : Prop := wearTellsUptoRow.holds Try.pinned (OpenSpec.upto wearTellsSpec)

/-- 'scullerylaw12.WearEvens', WHERE WHAT IT READS IS OF BULK AT MOST 1048576: true; the input reads as it did. -/
def wearEvensUptoRow : OpenClaim := { program := "ytbahngmjbpaglaa", sum := "26832f0b95c94aaa986ef67f8a75017a3fcd0c6416bf7a33ec6def672225a994", func := "scullery/scullerylaw12.WearEvens", spec := "wearEvens", unfollowed := true, recurses := true, apart := false, narrowed := true }
def WearEvensUptoSaid : Prop := wearEvensUptoRow.holds Try.pinned (OpenSpec.upto wearEvensSpec)

/-- 'scullerylaw12.WearShifts', WHERE WHAT IT READS IS OF BULK AT MOST 1048576: true; the input reads as it did. -/
def wearShiftsUptoRow : OpenClaim := { program := "ytbahngmjbpaglaa", sum := "26832f0b95c94aaa986ef67f8a75017a3fcd0c6416bf7a33ec6def672225a994", func := "scullery/scullerylaw12.WearShifts", spec := "wearShifts", unfollowed := true, recurses := true, apart := false, narrowed := true }
def WearShiftsUptoSaid : Prop := wearShiftsUptoRow.holds Try.pinned (OpenSpec.upto wearShiftsSpec)

/-- 'scullerylaw12.WearPicks', WHERE WHAT IT READS IS OF BULK AT MOST 1048576: true; the input reads as it did. -/
def wearPicksUptoRow : OpenClaim := { program := "ytbahngmjbpaglaa", sum := "26832f0b95c94aaa986ef67f8a75017a3fcd0c6416bf7a33ec6def672225a994", func := "scullery/scullerylaw12.WearPicks", spec := "wearPicks", unfollowed := true, recurses := true, apart := false, narrowed := true }
def WearPicksUptoSaid : Prop := wearPicksUptoRow.holds Try.pinned (OpenSpec.upto wearPicksSpec)

/-- 'scullerylaw15.VictimTells', WHERE WHAT IT READS IS OF BULK AT MOST 1048576: true; the input reads as it did. -/
def victimTellsUptoRow : OpenClaim := { program := "ytbahngmjbpaglaa", sum := "26832f0b95c94aaa986ef67f8a75017a3fcd0c6416bf7a33ec6def672225a994", func := "scullery/scullerylaw15.VictimTells", spec := "victimTells", unfollowed := true, recurses := true, apart := false, narrowed := true }
def VictimTellsUptoSaid : Prop := victimTellsUptoRow.holds Try.pinned (OpenSpec.upto victimTellsSpec)

/-- 'scullerylaw15.VictimLeast', WHERE WHAT IT READS IS OF BULK AT MOST 1048576: true; the input reads as it did. -/
def victimLeastUptoRow : OpenClaim := { program := "ytbahngmjbpaglaa", sum := "26832f0b95c94aaa986ef67f8a75017a3fcd0c6416bf7a33ec6def672225a994", func := "scullery/scullerylaw15.VictimLeast", spec := "victimLeast", unfollowed := true, recurses := true, apart := false, narrowed := true }
def VictimLeastUptoSaid : Prop := victimLeastUptoRow.holds Try.pinned (OpenSpec.upto victimLeastSpec)

/-- 'scullerylaw15.VictimTurned', WHERE WHAT IT READS IS OF BULK AT MOST 1048576: true; the input reads as it did. -/
def victimTurnedUptoRow : OpenClaim := { program := "ytbahngmjbpaglaa", sum := "26832f0b95c94aaa986ef67f8a75017a3fcd0c6416bf7a33ec6def672225a994", func := "scullery/scullerylaw15.VictimTurned", spec := "victimTurned", unfollowed := true, recurses := true, apart := false, narrowed := true }
def VictimTurnedUptoSaid : Prop := victimTurnedUptoRow.holds Try.pinned (OpenSpec.upto victimTurnedSpec)

/-- 'scullerylaw15.VictimOthers', WHERE WHAT IT READS IS OF BULK AT MOST 1048576: true; the input reads as it did. -/
def victimOthersUptoRow : OpenClaim := { program := "ytbahngmjbpaglaa", sum := "26832f0b95c94aaa986ef67f8a75017a3fcd0c6416bf7a33ec6def672225a994", func := "scullery/scullerylaw15.VictimOthers", spec := "victimOthers", unfollowed := true, recurses := true, apart := false, narrowed := true }
def VictimOthersUptoSaid : Prop := victimOthersUptoRow.holds Try.pinned (OpenSpec.upto victimOthersSpec)

end Rows
end Go.Proofs.Ytbahngmjbpaglaa
