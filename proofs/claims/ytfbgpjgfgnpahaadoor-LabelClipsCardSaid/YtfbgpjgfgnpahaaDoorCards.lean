/-
  DERIVED. GIVEN WITH THE SEED: THE CARDS: each row of YtfbgpjgfgnpahaaDoorRows.lean that lists a variable, with what it lists TIED to the program's text (the seventh form; the later family's looks); each row that meets fmt, with fmt's text TOLD by the authors' own Lean function (tested against real Go, not proved from fmt's source: count such statements apart). THE CARD IS WHAT COUNTS. Prove the row's statement (the work); the ties are given (YtfbgpjgfgnpahaaDoorTie.lean); close each card by the builder's one call (the guide's Derived/Test/ToyasCard.lean, 'card_holds'). Laid BY PROGRAM, IN A SANDBOX (cutbox-door.mjs). By AI agents, Wed Nov 11 2026. No macro, syntax, notation, axiom, sorry.
-/
import Derived.Test.YtfbgpjgfgnpahaaDoorRows
import GoSem.ClaimSeven
namespace Go.Proofs.YtfbgpjgfgnpahaaDoor
namespace Rows

/-- THE TIED CARD OF 'scullerylaw1.LabelNumbers'. -/
def labelNumbersCard : Claim7 := { stood := { row := labelNumbersRow, standIns := [], harness := (true, "0c398746a4794198ba86b5f24ed7ad6b32e44a4c55df6a61079209dae7461b12"), looks := true }, kinds := [], alts := [], laidByText := true, laidKinds := [.data, .data, .data, .data, .sentinel, .sentinel, .pinned], laidTests := true, laidLooks := .later }
def LabelNumbersCardSaid : Prop := Claim7.holds Tryd.pinned (.plain (OpenSpec.ofChange labelNumbersSpec)) labelNumbersCard

/-- THE TIED CARD OF 'scullerylaw1.LabelHexes'. -/
def labelHexesCard : Claim7 := { stood := { row := labelHexesRow, standIns := [], harness := (true, "0c398746a4794198ba86b5f24ed7ad6b32e44a4c55df6a61079209dae7461b12"), looks := true }, kinds := [], alts := [], laidByText := true, laidKinds := [.data, .data, .data, .data, .sentinel, .sentinel, .pinned], laidTests := true, laidLooks := .later }
def LabelHexesCardSaid : Prop := Claim7.holds Tryd.pinned (.plain (OpenSpec.ofChange labelHexesSpec)) labelHexesCard

/-- THE TIED CARD OF 'scullerylaw1.LabelRunes'. -/
def labelRunesCard : Claim7 := { stood := { row := labelRunesRow, standIns := [], harness := (true, "0c398746a4794198ba86b5f24ed7ad6b32e44a4c55df6a61079209dae7461b12"), looks := true }, kinds := [], alts := [], laidByText := true, laidKinds := [.data, .data, .data, .data, .sentinel, .sentinel, .pinned], laidTests := true, laidLooks := .later }
def LabelRunesCardSaid : Prop := Claim7.holds Tryd.pinned (.plain (OpenSpec.ofChange labelRunesSpec)) labelRunesCard

/-- THE TIED CARD OF 'scullerylaw1.LabelPrefixes'. -/
def labelPrefixesCard : Claim7 := { stood := { row := labelPrefixesRow, standIns := [], harness := (true, "0c398746a4794198ba86b5f24ed7ad6b32e44a4c55df6a61079209dae7461b12"), looks := true }, kinds := [], alts := [], laidByText := true, laidKinds := [.data, .data, .data, .data, .sentinel, .sentinel, .pinned], laidTests := true, laidLooks := .later }
def LabelPrefixesCardSaid : Prop := Claim7.holds Tryd.pinned (.plain (OpenSpec.ofChange labelPrefixesSpec)) labelPrefixesCard

/-- THE TIED CARD OF 'scullerylaw1.LabelTells'. -/
def labelTellsCard : Claim7 := { stood := { row := labelTellsRow, standIns := [], harness := (true, "0c398746a4794198ba86b5f24ed7ad6b32e44a4c55df6a61079209dae7461b12"), looks := true }, kinds := [], alts := [], laidByText := true, laidKinds := [.data, .data, .data, .data, .sentinel, .sentinel, .pinned], laidTests := true, laidLooks := .later }
def LabelTellsCardSaid : Prop := Claim7.holds Tryd.pinned (.plain (OpenSpec.ofChange labelTellsSpec)) labelTellsCard

/-- THE TIED CARD OF 'scullerylaw1.LabelClips'. -/
def labelClipsCard : Claim7 := { stood := { row := labelClipsRow, standIns := [], harness := (true, "0c398746a4794198ba86b5f24ed7ad6b32e44a4c55df6a61079209dae7461b12"), looks := true }, kinds := [], alts := [], laidByText := true, laidKinds := [.data, .data, .data, .data, .sentinel, .sentinel, .pinned], laidTests := true, laidLooks := .later }
def LabelClipsCardSaid : Prop := Claim7.holds Tryd.pinned (.plain (OpenSpec.ofChange labelClipsSpec)) labelClipsCard

/-- THE TIED CARD OF 'scullerylaw1.LabelJoins'. -/
def labelJoinsCard : Claim7 := { stood := { row := labelJoinsRow, standIns := [], harness := (true, "0c398746a4794198ba86b5f24ed7ad6b32e44a4c55df6a61079209dae7461b12"), looks := true }, kinds := [], alts := [], laidByText := true, laidKinds := [.data, .data, .data, .data, .sentinel, .sentinel, .pinned], laidTests := true, laidLooks := .later }
def LabelJoinsCardSaid : Prop := Claim7.holds Tryd.pinned (.plain (OpenSpec.ofChange labelJoinsSpec)) labelJoinsCard

/-- THE SECOND FORM's CARD OF 'scullerylaw1.LabelNumbers'. -/
def labelNumbersUptoCard : Claim7 := { stood := { row := labelNumbersUptoRow, standIns := [], harness := (true, "0c398746a4794198ba86b5f24ed7ad6b32e44a4c55df6a61079209dae7461b12"), looks := true }, kinds := [], alts := [], laidByText := true, laidKinds := [.data, .data, .data, .data, .sentinel, .sentinel, .pinned], laidTests := true, laidLooks := .later }
def LabelNumbersUptoCardSaid : Prop := Claim7.holds Tryd.pinned (.plain (OpenSpec.upto labelNumbersSpec)) labelNumbersUptoCard

/-- THE SECOND FORM's CARD OF 'scullerylaw1.LabelHexes'. -/
def labelHexesUptoCard : Claim7 := { stood := { row := labelHexesUptoRow, standIns := [], harness := (true, "0c398746a4794198ba86b5f24ed7ad6b32e44a4c55df6a61079209dae7461b12"), looks := true }, kinds := [], alts := [], laidByText := true, laidKinds := [.data, .data, .data, .data, .sentinel, .sentinel, .pinned], laidTests := true, laidLooks := .later }
def LabelHexesUptoCardSaid : Prop := Claim7.holds Tryd.pinned (.plain (OpenSpec.upto labelHexesSpec)) labelHexesUptoCard

/-- THE SECOND FORM's CARD OF 'scullerylaw1.LabelRunes'. -/
def labelRunesUptoCard : Claim7 := { stood := { row := labelRunesUptoRow, standIns := [], harness := (true, "0c398746a4794198ba86b5f24ed7ad6b32e44a4c55df6a61079209dae7461b12"), looks := true }, kinds := [], alts := [], laidByText := true, laidKinds := [.data, .data, .data, .data, .sentinel, .sentinel, .pinned], laidTests := true, laidLooks := .later }
def LabelRunesUptoCardSaid : Prop := Claim7.holds Tryd.pinned (.plain (OpenSpec.upto labelRunesSpec)) labelRunesUptoCard

/-- THE SECOND FORM's CARD OF 'scullerylaw1.LabelPrefixes'. -/
def labelPrefixesUptoCard : Claim7 := { stood := { row := labelPrefixesUptoRow, standIns := [], harness := (true, "0c398746a4794198ba86b5f24ed7ad6b32e44a4c55df6a61079209dae7461b12"), looks := true }, kinds := [], alts := [], laidByText := true, laidKinds := [.data, .data, .data, .data, .sentinel, .sentinel, .pinned], laidTests := true, laidLooks := .later }
def LabelPrefixesUptoCardSaid : Prop := Claim7.holds Tryd.pinned (.plain (OpenSpec.upto labelPrefixesSpec)) labelPrefixesUptoCard

/-- THE SECOND FORM's CARD OF 'scullerylaw1.LabelTells'. -/
def labelTellsUptoCard : Claim7 := { stood := { row := labelTellsUptoRow, standIns := [], harness := (true, "0c398746a4794198ba86b5f24ed7ad6b32e44a4c55df6a61079209dae7461b12"), looks := true }, kinds := [], alts := [], laidByText := true, laidKinds := [.data, .data, .data, .data, .sentinel, .sentinel, .pinned], laidTests := true, laidLooks := .later }
def LabelTellsUptoCardSaid : Prop := Claim7.holds Tryd.pinned (.plain (OpenSpec.upto labelTellsSpec)) labelTellsUptoCard

/-- THE SECOND FORM's CARD OF 'scullerylaw1.LabelClips'. -/
def labelClipsUptoCard : Claim7 := { stood := { row := labelClipsUptoRow, standIns := [], harness := (true, "0c398746a4794198ba86b5f24ed7ad6b32e44a4c55df6a61079209dae7461b12"), looks := true }, kinds := [], alts := [], laidByText := true, laidKinds := [.data, .data, .data, .data, .sentinel, .sentinel, .pinned], laidTests := true, laidLooks := .later }
def LabelClipsUptoCardSaid : Prop := Claim7.holds Tryd.pinned (.plain (OpenSpec.upto labelClipsSpec)) labelClipsUptoCard

/-- THE SECOND FORM's CARD OF 'scullerylaw1.LabelJoins'. -/
def labelJoinsUptoCard : Claim7 := { stood := { row := labelJoinsUptoRow, standIns := [], harness := (true, "0c398746a4794198ba86b5f24ed7ad6b32e44a4c55df6a61079209dae7461b12"), looks := true }, kinds := [], alts := [], laidByText := true, laidKinds := [.data, .data, .data, .data, .sentinel, .sentinel, .pinned], laidTests := true, laidLooks := .later }
def LabelJoinsUptoCardSaid : Prop := Claim7.holds Tryd.pinned (.plain (OpenSpec.upto labelJoinsSpec)) labelJoinsUptoCard
end Rows
end Go.Proofs.YtfbgpjgfgnpahaaDoor
