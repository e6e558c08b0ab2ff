/-
  No cell of these rows narrows 'for every input' (looked for: loops, veiled, ifaces, maps, wideKeys, modest, calm, conditions, laid).
  DERIVED. THE GIVEN ROWS OF THIS SEAT. 10 by the template 'for every input the law returns true; each argument reads behind the call as it read before'; 0 by the template 'total and deterministic' (their statements: YtljgdgkmkneloaaTotals.lean).
  GIVEN WITH THE SEED: the statements are not yours to turn. If you find one false, say at which input.
  Laid BY PROGRAM, IN A SANDBOX (cutbox-rows.mjs): the forced cells as the released guide's own fill.sh prints them over the translation d4540f6874c282ee… (all of the seat's roots in one cut). By AI agents, Wed Nov 11 2026. No macro, syntax, notation, axiom, sorry.
-/
import Derived.Test.YtljgdgkmkneloaaChecked
import GoSem.Claim
import GoSem.ClaimJoined
import GoSem.ClaimMapViews
import Derived.JoinedTies
import Derived.KernelRfl
namespace Go.Proofs.Ytljgdgkmkneloaa
/- THE CELL 'sum', in the pinned program and in every row, IS THE sha256 OF THE DUMP (.gsa) THAT YtljgdgkmkneloaaProg.lean LOADS. Nothing in Lean hashes anything: it is a label: what it is worth is what the hold of that sum in a sandbox is worth. -/
noncomputable def Try.pinned : Pinned := { name := "ytljgdgkmkneloaa", sum := "d4540f6874c282ee74b4e8d5b5f1017ce348e67598bc7615478f05ca4dd254ba", checked := Try.checked }
namespace Rows
def none {H : Type} : Left H := { results := [], args := [] }

/-- 'scullerylaw4.HeadTells': WHATEVER THE INPUT: true; the input reads as it did. -/
def headTellsSpec : ChangeSpec := { name := "headTells", fn := fun _ => fun
  | [d1, d2, d3] => { results := [.lit (.bool true)], args := [d1, d2, d3] }
  | _ => none }
def headTellsRow : OpenClaim := { program := "ytljgdgkmkneloaa", sum := "d4540f6874c282ee74b4e8d5b5f1017ce348e67598bc7615478f05ca4dd254ba", func := "scullery/scullerylaw4.HeadTells", spec := "headTells", unfollowed := true, recurses := true, apart := false }
def HeadTellsSaid : Prop := headTellsRow.holds Try.pinned (OpenSpec.ofChange headTellsSpec)

/-- ITS FALSE NEIGHBOUR: 'it returns false'. Refute it at one input. -/
def headTellsWrong : ChangeSpec := { name := "headTells", fn := fun _ => fun
  | [d1, d2, d3] => { results := [.lit (.bool false)], args := [d1, d2, d3] }
  | _ => none }
def HeadTellsWrongFalsely : Prop := headTellsRow.holds Try.pinned (OpenSpec.ofChange headTellsWrong)

/-- 'scullerylaw4.HeadBack': WHATEVER THE INPUT: true; the input reads as it did. -/
def headBackSpec : ChangeSpec := { name := "headBack", fn := fun _ => fun
  | [d1, d2, d3, d4, d5] => { results := [.lit (.bool true)], args := [d1, d2, d3, d4, d5] }
  | _ => none }
def headBackRow : OpenClaim := { program := "ytljgdgkmkneloaa", sum := "d4540f6874c282ee74b4e8d5b5f1017ce348e67598bc7615478f05ca4dd254ba", func := "scullery/scullerylaw4.HeadBack", spec := "headBack", unfollowed := true, recurses := true, apart := false }
def HeadBackSaid : Prop := headBackRow.holds Try.pinned (OpenSpec.ofChange headBackSpec)

/-- ITS FALSE NEIGHBOUR: 'it returns false'. Refute it at one input. -/
def headBackWrong : ChangeSpec := { name := "headBack", fn := fun _ => fun
  | [d1, d2, d3, d4, d5] => { results := [.lit (.bool false)], args := [d1, d2, d3, d4, d5] }
  | _ => none }
def HeadBackWrongFalsely : Prop := headBackRow.holds Try.pinned (OpenSpec.ofChange headBackWrong)

/-- 'scullerylaw4.HeadTorn': WHATEVER THE INPUT: true; the input reads as it did. -/
def headTornSpec : ChangeSpec := { name := "headTorn", fn := fun _ => fun
  | [d1, d2, d3, d4, d5] => { results := [.lit (.bool true)], args := [d1, d2, d3, d4, d5] }
  | _ => none }
def headTornRow : OpenClaim := { program := "ytljgdgkmkneloaa", sum := "d4540f6874c282ee74b4e8d5b5f1017ce348e67598bc7615478f05ca4dd254ba", func := "scullery/scullerylaw4.HeadTorn", spec := "headTorn", unfollowed := true, recurses := true, apart := false }
def HeadTornSaid : Prop := headTornRow.holds Try.pinned (OpenSpec.ofChange headTornSpec)

/-- ITS FALSE NEIGHBOUR: 'it returns false'. Refute it at one input. -/
def headTornWrong : ChangeSpec := { name := "headTorn", fn := fun _ => fun
  | [d1, d2, d3, d4, d5] => { results := [.lit (.bool false)], args := [d1, d2, d3, d4, d5] }
  | _ => none }
def HeadTornWrongFalsely : Prop := headTornRow.holds Try.pinned (OpenSpec.ofChange headTornWrong)

/-- 'scullerylaw4.HeadApart': WHATEVER THE INPUT: true; the input reads as it did. -/
def headApartSpec : ChangeSpec := { name := "headApart", fn := fun _ => fun
  | [d1, d2, d3, d4, d5] => { results := [.lit (.bool true)], args := [d1, d2, d3, d4, d5] }
  | _ => none }
def headApartRow : OpenClaim := { program := "ytljgdgkmkneloaa", sum := "d4540f6874c282ee74b4e8d5b5f1017ce348e67598bc7615478f05ca4dd254ba", func := "scullery/scullerylaw4.HeadApart", spec := "headApart", unfollowed := true, recurses := true, apart := false }
def HeadApartSaid : Prop := headApartRow.holds Try.pinned (OpenSpec.ofChange headApartSpec)

/-- ITS FALSE NEIGHBOUR: 'it returns false'. Refute it at one input. -/
def headApartWrong : ChangeSpec := { name := "headApart", fn := fun _ => fun
  | [d1, d2, d3, d4, d5] => { results := [.lit (.bool false)], args := [d1, d2, d3, d4, d5] }
  | _ => none }
def HeadApartWrongFalsely : Prop := headApartRow.holds Try.pinned (OpenSpec.ofChange headApartWrong)

/-- 'scullerylaw4.HeadMixed': WHATEVER THE INPUT: true; the input reads as it did. -/
def headMixedSpec : ChangeSpec := { name := "headMixed", fn := fun _ => fun
  | [d1, d2, d3, d4, d5] => { results := [.lit (.bool true)], args := [d1, d2, d3, d4, d5] }
  | _ => none }
def headMixedRow : OpenClaim := { program := "ytljgdgkmkneloaa", sum := "d4540f6874c282ee74b4e8d5b5f1017ce348e67598bc7615478f05ca4dd254ba", func := "scullery/scullerylaw4.HeadMixed", spec := "headMixed", unfollowed := true, recurses := true, apart := false }
def HeadMixedSaid : Prop := headMixedRow.holds Try.pinned (OpenSpec.ofChange headMixedSpec)

/-- ITS FALSE NEIGHBOUR: 'it returns false'. Refute it at one input. -/
def headMixedWrong : ChangeSpec := { name := "headMixed", fn := fun _ => fun
  | [d1, d2, d3, d4, d5] => { results := [.lit (.bool false)], args := [d1, d2, d3, d4, d5] }
  | _ => none }
def HeadMixedWrongFalsely : Prop := headMixedRow.holds Try.pinned (OpenSpec.ofChange headMixedWrong)

/-- 'scullerylaw5.NoteTells': WHATEVER THE INPUT: true; the input reads as it did. -/
def noteTellsSpec : ChangeSpec := { name := "noteTells", fn := fun _ => fun
  | [d1, d2] => { results := [.lit (.bool true)], args := [d1, d2] }
  | _ => none }
def noteTellsRow : OpenClaim := { program := "ytljgdgkmkneloaa", sum := "d4540f6874c282ee74b4e8d5b5f1017ce348e67598bc7615478f05ca4dd254ba", func := "scullery/scullerylaw5.NoteTells", spec := "noteTells", apart := false }
def NoteTellsSaid : Prop := noteTellsRow.holds Try.pinned (OpenSpec.ofChange noteTellsSpec)

/-- ITS FALSE NEIGHBOUR: 'it returns false'. Refute it at one input. -/
def noteTellsWrong : ChangeSpec := { name := "noteTells", fn := fun _ => fun
  | [d1, d2] => { results := [.lit (.bool false)], args := [d1, d2] }
  | _ => none }
def NoteTellsWrongFalsely : Prop := noteTellsRow.holds Try.pinned (OpenSpec.ofChange noteTellsWrong)

/-- 'scullerylaw5.NoteReads': WHATEVER THE INPUT: true; the input reads as it did. -/
def noteReadsSpec : ChangeSpec := { name := "noteReads", fn := fun _ => fun
  | [d] => { results := [.lit (.bool true)], args := [d] }
  | _ => none }
def noteReadsRow : OpenClaim := { program := "ytljgdgkmkneloaa", sum := "d4540f6874c282ee74b4e8d5b5f1017ce348e67598bc7615478f05ca4dd254ba", func := "scullery/scullerylaw5.NoteReads", spec := "noteReads", apart := false }
def NoteReadsSaid : Prop := noteReadsRow.holds Try.pinned (OpenSpec.ofChange noteReadsSpec)

/-- ITS FALSE NEIGHBOUR: 'it returns false'. Refute it at one input. -/
def noteReadsWrong : ChangeSpec := { name := "noteReads", fn := fun _ => fun
  | [d] => { results := [.lit (.bool false)], args := [d] }
  | _ => none }
def NoteReadsWrongFalsely : Prop := noteReadsRow.holds Try.pinned (OpenSpec.ofChange noteReadsWrong)

/-- 'scullerylaw5.NoteBack': WHATEVER THE INPUT: true; the input reads as it did. -/
def noteBackSpec : ChangeSpec := { name := "noteBack", fn := fun _ => fun
  | [d1, d2] => { results := [.lit (.bool true)], args := [d1, d2] }
  | _ => none }
def noteBackRow : OpenClaim := { program := "ytljgdgkmkneloaa", sum := "d4540f6874c282ee74b4e8d5b5f1017ce348e67598bc7615478f05ca4dd254ba", func := "scullery/scullerylaw5.NoteBack", spec := "noteBack", apart := false }
def NoteBackSaid : Prop := noteBackRow.holds Try.pinned (OpenSpec.ofChange noteBackSpec)

/-- ITS FALSE NEIGHBOUR: 'it returns false'. Refute it at one input. -/
def noteBackWrong : ChangeSpec := { name := "noteBack", fn := fun _ => fun
  | [d1, d2] => { results := [.lit (.bool false)], args := [d1, d2] }
  | _ => none }
def NoteBackWrongFalsely : Prop := noteBackRow.holds Try.pinned (OpenSpec.ofChange noteBackWrong)

/-- 'scullerylaw5.NotePages': WHATEVER THE INPUT: true; the input reads as it did. -/
def notePagesSpec : ChangeSpec := { name := "notePages", fn := fun _ => fun
  | [d1, d2] => { results := [.lit (.bool true)], args := [d1, d2] }
  | _ => none }
def notePagesRow : OpenClaim := { program := "ytljgdgkmkneloaa", sum := "d4540f6874c282ee74b4e8d5b5f1017ce348e67598bc7615478f05ca4dd254ba", func := "scullery/scullerylaw5.NotePages", spec := "notePages", apart := false }
def NotePagesSaid : Prop := notePagesRow.holds Try.pinned (OpenSpec.ofChange notePagesSpec)

/-- ITS FALSE NEIGHBOUR: 'it returns false'. Refute it at one input. -/
def notePagesWrong : ChangeSpec := { name := "notePages", fn := fun _ => fun
  | [d1, d2] => { results := [.lit (.bool false)], args := [d1, d2] }
  | _ => none }
def NotePagesWrongFalsely : Prop := notePagesRow.holds Try.pinned (OpenSpec.ofChange notePagesWrong)

/-- 'scullerylaw5.NoteAdds': WHATEVER THE INPUT: true; the input reads as it did. -/
def noteAddsSpec : ChangeSpec := { name := "noteAdds", fn := fun _ => fun
  | [d1, d2, d3] => { results := [.lit (.bool true)], args := [d1, d2, d3] }
  | _ => none }
def noteAddsRow : OpenClaim := { program := "ytljgdgkmkneloaa", sum := "d4540f6874c282ee74b4e8d5b5f1017ce348e67598bc7615478f05ca4dd254ba", func := "scullery/scullerylaw5.NoteAdds", spec := "noteAdds", apart := false }
def NoteAddsSaid : Prop := noteAddsRow.holds Try.pinned (OpenSpec.ofChange noteAddsSpec)

/-- ITS FALSE NEIGHBOUR: 'it returns false'. Refute it at one input. -/
def noteAddsWrong : ChangeSpec := { name := "noteAdds", fn := fun _ => fun
  | [d1, d2, d3] => { results := [.lit (.bool false)], args := [d1, d2, d3] }
  | _ => none }
def NoteAddsWrongFalsely : Prop := noteAddsRow.holds Try.pinned (OpenSpec.ofChange noteAddsWrong)

/- THE SECOND FORM. 'bulk': how many values and letters a reading holds, each counted each time it is reached (what is shared counts as often as it is met; a slice's spare places count too). A statement '..UptoSaid' is the law's where the arguments, and the package variables that the reading takes, are together of bulk at most 1048576: NARROWER than '..Said'. Prove '..Said' where nothing that the law and all that it calls make is longer than what came in: it says more and counts as full. Else prove '..UptoSaid'. A law counts once. -/
mutual
def uptoBulk {H : Type} : DataW H → Nat
  | .lit (.string bytes) => bytes.length + 1
  | .lit _ => 1
  | .nil => 1
  | .ptr d => uptoBulk d + 1
  | .slice elems spare => uptoBulkAll elems + uptoBulkAll spare + 1
  | .agg parts => uptoBulkAll parts + 1
  | .iface _ d => uptoBulk d + 1
  | .map entries => uptoBulkEntries entries + 1
  | .held _ => 1
def uptoBulkAll {H : Type} : List (DataW H) → Nat
  | [] => 0
  | d :: r => uptoBulk d + uptoBulkAll r
def uptoBulkEntries {H : Type} : List (Lit × DataW H) → Nat
  | [] => 0
  | x :: r => uptoBulkEntry x + uptoBulkEntries r
def uptoBulkEntry {H : Type} : Lit × DataW H → Nat
  | (.string bytes, d) => bytes.length + uptoBulk d + 1
  | (_, d) => uptoBulk d + 1
 end
def uptoSmall : (H : Type) → List (DataW H) → Bool := fun _ ds => decide (uptoBulkAll ds ≤ 1048576)
def OpenSpec.upto (s : _root_.Go.ChangeSpec) : _root_.Go.OpenSpec := { _root_.Go.OpenSpec.ofChange s with cond := some uptoSmall }

/-- 'scullerylaw4.HeadTells', WHERE WHAT IT READS IS OF BULK AT MOST 1048576: true; the input reads as it did. -/
def headTellsUptoRow : OpenClaim := { program := "ytljgdgkmkneloaa", sum := "d4540f6874c282ee74b4e8d5b5f1017ce348e67598bc7615478f05ca4dd254ba", func := "scullery/scullerylaw4.HeadTells", spec := "headTells", unfollowed := true, recurses := true, apart := false, narrowed := true }
def HeadTellsUptoSaid : Prop := headTellsUptoRow.holds Try.pinned (OpenSpec.upto headTellsSpec)

/-- 'scullerylaw4.HeadBack', WHERE WHAT IT READS IS OF BULK AT MOST 1048576: true; the input reads as it did. -/
def headBackUptoRow : OpenClaim := { program := "ytljgdgkmkneloaa", sum := "d4540f6874c282ee74b4e8d5b5f1017ce348e67598bc7615478f05ca4dd254ba", func := "scullery/scullerylaw4.HeadBack", spec := "headBack", unfollowed := true, recurses := true, apart := false, narrowed := true }
def HeadBackUptoSaid : Prop := headBackUptoRow.holds Try.pinned (OpenSpec.upto headBackSpec)

/-- 'scullerylaw4.HeadTorn', WHERE WHAT IT READS IS OF BULK AT MOST 1048576: true; the input reads as it did. -/
def headTornUptoRow : OpenClaim := { program := "ytljgdgkmkneloaa", sum := "d4540f6874c282ee74b4e8d5b5f1017ce348e67598bc7615478f05ca4dd254ba", func := "scullery/scullerylaw4.HeadTorn", spec := "headTorn", unfollowed := true, recurses := true, apart := false, narrowed := true }
def HeadTornUptoSaid : Prop := headTornUptoRow.holds Try.pinned (OpenSpec.upto headTornSpec)

/-- 'scullerylaw4.HeadApart', WHERE WHAT IT READS IS OF BULK AT MOST 1048576: true; the input reads as it did. -/
def headApartUptoRow : OpenClaim := { program := "ytljgdgkmkneloaa", sum := "d4540f6874c282ee74b4e8d5b5f1017ce348e67598bc7615478f05ca4dd254ba", func := "scullery/scullerylaw4.HeadApart", spec := "headApart", unfollowed := true, recurses := true, apart := false, narrowed := true }
def HeadApartUptoSaid : Prop := headApartUptoRow.holds Try.pinned (OpenSpec.upto headApartSpec)

/-- 'scullerylaw4.HeadMixed', WHERE WHAT IT READS IS OF BULK AT MOST 1048576: true; the input reads as it did. -/
def headMixedUptoRow : OpenClaim := { program := "ytljgdgkmkneloaa", sum := "d4540f6874c282ee74b4e8d5b5f1017ce348e67598bc7615478f05ca4dd254ba", func := "scullery/scullerylaw4.HeadMixed", spec := "headMixed", unfollowed := true, recurses := true, apart := false, narrowed := true }
def HeadMixedUptoSaid : Prop := headMixedUptoRow.holds Try.pinned (OpenSpec.upto headMixedSpec)

/-- 'scullerylaw5.NoteTells', WHERE WHAT IT READS IS OF BULK AT MOST 1048576: true; the input reads as it did. -/
def noteTellsUptoRow : OpenClaim := { program := "ytljgdgkmkneloaa", sum := "d4540f6874c282ee74b4e8d5b5f1017ce348e67598bc7615478f05ca4dd254ba", func := "scullery/scullerylaw5.NoteTells", spec := "noteTells", apart := false, narrowed := true }
def NoteTellsUptoSaid : Prop := noteTellsUptoRow.holds Try.pinned (OpenSpec.upto noteTellsSpec)

/-- 'scullerylaw5.NoteReads', WHERE WHAT IT READS IS OF BULK AT MOST 1048576: true; the input reads as it did. -/
def noteReadsUptoRow : OpenClaim := { program := "ytljgdgkmkneloaa", sum := "d4540f6874c282ee74b4e8d5b5f1017ce348e67598bc7615478f05ca4dd254ba", func := "scullery/scullerylaw5.NoteReads", spec := "noteReads", apart := false, narrowed := true }
def NoteReadsUptoSaid : Prop := noteReadsUptoRow.holds Try.pinned (OpenSpec.upto noteReadsSpec)

/-- 'scullerylaw5.NoteBack', WHERE WHAT IT READS IS OF BULK AT MOST 1048576: true; the input reads as it did. -/
def noteBackUptoRow : OpenClaim := { program := "ytljgdgkmkneloaa", sum := "d4540f6874c282ee74b4e8d5b5f1017ce348e67598bc7615478f05ca4dd254ba", func := "scullery/scullerylaw5.NoteBack", spec := "noteBack", apart := false, narrowed := true }
def NoteBackUptoSaid : Prop := noteBackUptoRow.holds Try.pinned (OpenSpec.upto noteBackSpec)

/-- 'scullerylaw5.NotePages', WHERE WHAT IT READS IS OF BULK AT MOST 1048576: true; the input reads as it did. -/
def notePagesUptoRow : OpenClaim := { program := "ytljgdgkmkneloaa", sum := "d4540f6874c282ee74b4e8d5b5f1017ce348e67598bc7615478f05ca4dd254ba", func := "scullery/scullerylaw5.NotePages", spec := "notePages", apart := false, narrowed := true }
def NotePagesUptoSaid : Prop := notePagesUptoRow.holds Try.pinned (OpenSpec.upto notePagesSpec)

/-- 'scullerylaw5.NoteAdds', WHERE WHAT IT READS IS OF BULK AT MOST 1048576: true; the input reads as it did. -/
def noteAddsUptoRow : OpenClaim := { program := "ytljgdgkmkneloaa", sum := "d4540f6874c282ee74b4e8d5b5f1017ce348e67598bc7615478f05ca4dd254ba", func := "scullery/scullerylaw5.NoteAdds", spec := "noteAdds", apart := false, narrowed := true }
def NoteAddsUptoSaid : Prop := noteAddsUptoRow.holds Try.pinned (OpenSpec.upto noteAddsSpec)

end Rows
end Go.Proofs.Ytljgdgkmkneloaa
