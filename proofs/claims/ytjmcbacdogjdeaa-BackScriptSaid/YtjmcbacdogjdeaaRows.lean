/-
  No cell of these rows narrows 'for every input' (looked for: loops, veiled, ifaces, maps, wideKeys, modest, calm, conditions, laid).
  DERIVED. THE GIVEN ROWS OF THIS SEAT. 3 by the template 'for every input the law returns true; each argument reads behind the call as it read before'; 0 by the template 'total and deterministic' (their statements: YtjmcbacdogjdeaaTotals.lean).
  GIVEN WITH THE SEED: the statements are not yours to turn. If you find one false, say at which input.
  Laid BY PROGRAM, IN A SANDBOX (cutbox-rows.mjs): the forced cells as the released guide's own fill.sh prints them over the translation f7d88879c6d1d93d… (all of the seat's roots in one cut). By AI agents, Wed Nov 11 2026. No macro, syntax, notation, axiom, sorry.
-/
import Derived.Test.YtjmcbacdogjdeaaChecked
import GoSem.Claim
import GoSem.ClaimJoined
import GoSem.ClaimMapViews
import Derived.JoinedTies
import Derived.KernelRfl
namespace Go.Proofs.Ytjmcbacdogjdeaa
/- THE CELL 'sum', in the pinned program and in every row, IS THE sha256 OF THE DUMP (.gsa) THAT YtjmcbacdogjdeaaProg.lean LOADS. Nothing in Lean hashes anything: it is a label: what it is worth is what the hold of that sum in a sandbox is worth. -/
noncomputable def Try.pinned : Pinned := { name := "ytjmcbacdogjdeaa", sum := "f7d88879c6d1d93d69539a84a3296a3a25db4a38df7c3391a3955cf48998e26e", checked := Try.checked }
namespace Rows
def none {H : Type} : Left H := { results := [], args := [] }

/-- 'scullerylaw14.BackScript': WHATEVER THE INPUT: true; the input reads as it did. -/
def backScriptSpec : ChangeSpec := { name := "backScript", fn := fun _ => fun
  | [d1, d2, d3, d4] => { results := [.lit (.bool true)], args := [d1, d2, d3, d4] }
  | _ => none }
def backScriptRow : OpenClaim := { program := "ytjmcbacdogjdeaa", sum := "f7d88879c6d1d93d69539a84a3296a3a25db4a38df7c3391a3955cf48998e26e", func := "scullery/scullerylaw14.BackScript", spec := "backScript", apart := false }
def BackScriptSaid : Prop := backScriptRow.holds Try.pinned (OpenSpec.ofChange backScriptSpec)

/-- ITS FALSE NEIGHBOUR: 'it returns false'. Refute it at one input. -/
def backScriptWrong : ChangeSpec := { name := "backScript", fn := fun _ => fun
  | [d1, d2, d3, d4] => { results := [.lit (.bool false)], args := [d1, d2, d3, d4] }
  | _ => none }
def BackScriptWrongFalsely : Prop := backScriptRow.holds Try.pinned (OpenSpec.ofChange backScriptWrong)

/-- 'scullerylaw14.BackParts': WHATEVER THE INPUT: true; the input reads as it did. -/
def backPartsSpec : ChangeSpec := { name := "backParts", fn := fun _ => fun
  | [d1, d2, d3] => { results := [.lit (.bool true)], args := [d1, d2, d3] }
  | _ => none }
def backPartsRow : OpenClaim := { program := "ytjmcbacdogjdeaa", sum := "f7d88879c6d1d93d69539a84a3296a3a25db4a38df7c3391a3955cf48998e26e", func := "scullery/scullerylaw14.BackParts", spec := "backParts", apart := false }
def BackPartsSaid : Prop := backPartsRow.holds Try.pinned (OpenSpec.ofChange backPartsSpec)

/-- ITS FALSE NEIGHBOUR: 'it returns false'. Refute it at one input. -/
def backPartsWrong : ChangeSpec := { name := "backParts", fn := fun _ => fun
  | [d1, d2, d3] => { results := [.lit (.bool false)], args := [d1, d2, d3] }
  | _ => none }
def BackPartsWrongFalsely : Prop := backPartsRow.holds Try.pinned (OpenSpec.ofChange backPartsWrong)

/-- 'scullerylaw14.BackTurns': WHATEVER THE INPUT: true; the input reads as it did. -/
def backTurnsSpec : ChangeSpec := { name := "backTurns", fn := fun _ => fun
  | [d1, d2] => { results := [.lit (.bool true)], args := [d1, d2] }
  | _ => none }
def backTurnsRow : OpenClaim := { program := "ytjmcbacdogjdeaa", sum := "f7d88879c6d1d93d69539a84a3296a3a25db4a38df7c3391a3955cf48998e26e", func := "scullery/scullerylaw14.BackTurns", spec := "backTurns", apart := false }
def BackTurnsSaid : Prop := backTurnsRow.holds Try.pinned (OpenSpec.ofChange backTurnsSpec)

/-- ITS FALSE NEIGHBOUR: 'it returns false'. Refute it at one input. -/
def backTurnsWrong : ChangeSpec := { name := "backTurns", fn := fun _ => fun
  | [d1, d2] => { results := [.lit (.bool false)], args := [d1, d2] }
  | _ => none }
def BackTurnsWrongFalsely : Prop := backTurnsRow.holds Try.pinned (OpenSpec.ofChange backTurnsWrong)

/- THE SECOND FORM. 'bulk': how many values and letters a reading holds, each counted each time it is reached (what is shared counts as often as it is met; a slice's spare places count too). A statement '..UptoSaid' is the law's where the arguments, and the package variables that the reading takes, are together of bulk at most 1048576: NARROWER than '..Said'. Prove '..Said' where nothing that the law and all that it calls make is longer than what came in: it says more and counts as full. Else prove '..UptoSaid'. A law counts once. -/
mutual
def uptoBulk {H : Type} : DataW H → Nat
  | .lit (.string bytes) => bytes.length + 1
  | .lit _ => 1
  | .nil => 1
  | .ptr d => uptoBulk d + 1
  | .slice elems spare => uptoBulkAll elems + uptoBulkAll spare + 1
  | .agg parts => uptoBulkAll parts + 1
  | .iface _ d => uptoBulk d + 1
  | .map entries => uptoBulkEntries entries + 1
  | .held _ => 1
def uptoBulkAll {H : Type} : List (DataW H) → Nat
  | [] => 0
  | d :: r => uptoBulk d + uptoBulkAll r
def uptoBulkEntries {H : Type} : List (Lit × DataW H) → Nat
  | [] => 0
  | x :: r => uptoBulkEntry x + uptoBulkEntries r
def uptoBulkEntry {H : Type} : Lit × DataW H → Nat
  | (.string bytes, d) => bytes.length + uptoBulk d + 1
  | (_, d) => uptoBulk d + 1
 end
def uptoSmall : (H : Type) → List (DataW H) → Bool := fun _ ds => decide (uptoBulkAll ds ≤ 1048576)
def OpenSpec.upto (s : _root_.Go.ChangeSpec) : _root_.Go.OpenSpec := { _root_.Go.OpenSpec.ofChange s with cond := some uptoSmall }

/-- 'scullerylaw14.BackScript', WHERE WHAT IT READS IS OF BULK AT MOST 1048576: true; the input reads as it did. -/
def backScriptUptoRow : OpenClaim := { program := "ytjmcbacdogjdeaa", sum := "f7d88879c6d1d93d69539a84a3296a3a25db4a38df7c3391a3955cf48998e26e", func := "scullery/scullerylaw14.BackScript", spec := "backScript", apart := false, narrowed := true }
def BackScriptUptoSaid : Prop := backScriptUptoRow.holds Try.pinned (OpenSpec.upto backScriptSpec)

/-- 'scullerylaw14.BackParts', WHERE WHAT IT READS IS OF BULK AT MOST 1048576: true; the input reads as it did. -/
def backPartsUptoRow : OpenClaim := { program := "ytjmcbacdogjdeaa", sum := "f7d88879c6d1d93d69539a84a3296a3a25db4a38df7c3391a3955cf48998e26e", func := "scullery/scullerylaw14.BackParts", spec := "backParts", apart := false, narrowed := true }
def BackPartsUptoSaid : Prop := backPartsUptoRow.holds Try.pinned (OpenSpec.upto backPartsSpec)

/-- 'scullerylaw14.BackTurns', WHERE WHAT IT READS IS OF BULK AT MOST 1048576: true; the input reads as it did. -/
def backTurnsUptoRow : OpenClaim := { program := "ytjmcbacdogjdeaa", sum := "f7d88879c6d1d93d69539a84a3296a3a25db4a38df7c3391a3955cf48998e26e", func := "scullery/scullerylaw14.BackTurns", spec := "backTurns", apart := false, narrowed := true }
def BackTurnsUptoSaid : Prop := backTurnsUptoRow.holds Try.pinned (OpenSpec.upto backTurnsSpec)

end Rows
end Go.Proofs.Ytjmcbacdogjdeaa
