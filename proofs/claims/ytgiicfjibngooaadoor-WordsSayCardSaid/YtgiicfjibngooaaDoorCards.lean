/-
  DERIVED. GIVEN WITH THE SEED: THE CARDS: each row of YtgiicfjibngooaaDoorRows.lean that lists a variable, with what it lists TIED to the program's text (the seventh form; the later family's looks); each row that meets fmt, with fmt's text TOLD by the authors' own Lean function (tested against real Go, not proved from fmt's source: count such statements apart). THE CARD IS WHAT COUNTS. Prove the row's statement (the work); the ties are given (YtgiicfjibngooaaDoorTie.lean); close each card by the builder's one call (the guide's Derived/Test/ToyasCard.lean, 'card_holds'). Laid BY PROGRAM, IN A SANDBOX (cutbox-door.mjs). By AI agents, Wed Nov 11 2026. No macro, syntax, notation, axiom, sorry.
-/
import Derived.Test.YtgiicfjibngooaaDoorRows
import GoSem.ClaimSeven
namespace Go.Proofs.YtgiicfjibngooaaDoor
namespace Rows

/-- THE TIED CARD OF 'scullerylaw24.WordsRead'. -/
def wordsReadCard : Claim7 := { stood := { row := wordsReadRow, standIns := [], harness := (true, "a0ed814c460c339064632710bf60ac70e6f0c36d3225676c5ff32adf4be7042d"), looks := true }, kinds := [], alts := [], laidByText := true, laidKinds := [.data, .data, .data, .data, .sentinel, .sentinel, .pinned], laidTests := true, laidLooks := .later }
def WordsReadCardSaid : Prop := Claim7.holds Tryd.pinned (.plain (OpenSpec.ofChange wordsReadSpec)) wordsReadCard

/-- THE TIED CARD OF 'scullerylaw24.WordsSay'. -/
def wordsSayCard : Claim7 := { stood := { row := wordsSayRow, standIns := [], harness := (true, "a0ed814c460c339064632710bf60ac70e6f0c36d3225676c5ff32adf4be7042d"), looks := true }, kinds := [], alts := [], laidByText := true, laidKinds := [.data, .data, .data, .data, .sentinel, .sentinel, .pinned], laidTests := true, laidLooks := .later }
def WordsSayCardSaid : Prop := Claim7.holds Tryd.pinned (.plain (OpenSpec.ofChange wordsSaySpec)) wordsSayCard

/-- THE TIED CARD OF 'scullerylaw24.WordsBack'. -/
def wordsBackCard : Claim7 := { stood := { row := wordsBackRow, standIns := [], harness := (true, "a0ed814c460c339064632710bf60ac70e6f0c36d3225676c5ff32adf4be7042d"), looks := true }, kinds := [], alts := [], laidByText := true, laidKinds := [.data, .data, .data, .data, .sentinel, .sentinel, .pinned], laidTests := true, laidLooks := .later }
def WordsBackCardSaid : Prop := Claim7.holds Tryd.pinned (.plain (OpenSpec.ofChange wordsBackSpec)) wordsBackCard

/-- THE TIED CARD OF 'scullerylaw24.WordsApart'. -/
def wordsApartCard : Claim7 := { stood := { row := wordsApartRow, standIns := [], harness := (true, "a0ed814c460c339064632710bf60ac70e6f0c36d3225676c5ff32adf4be7042d"), looks := true }, kinds := [], alts := [], laidByText := true, laidKinds := [.data, .data, .data, .data, .sentinel, .sentinel, .pinned], laidTests := true, laidLooks := .later }
def WordsApartCardSaid : Prop := Claim7.holds Tryd.pinned (.plain (OpenSpec.ofChange wordsApartSpec)) wordsApartCard

/-- THE TIED CARD OF 'scullerylaw24.WordsLong'. -/
def wordsLongCard : Claim7 := { stood := { row := wordsLongRow, standIns := [], harness := (true, "a0ed814c460c339064632710bf60ac70e6f0c36d3225676c5ff32adf4be7042d"), looks := true }, kinds := [], alts := [], laidByText := true, laidKinds := [.data, .data, .data, .data, .sentinel, .sentinel, .pinned], laidTests := true, laidLooks := .later }
def WordsLongCardSaid : Prop := Claim7.holds Tryd.pinned (.plain (OpenSpec.ofChange wordsLongSpec)) wordsLongCard

/-- THE SECOND FORM's CARD OF 'scullerylaw24.WordsRead'. -/
def wordsReadUptoCard : Claim7 := { stood := { row := wordsReadUptoRow, standIns := [], harness := (true, "a0ed814c460c339064632710bf60ac70e6f0c36d3225676c5ff32adf4be7042d"), looks := true }, kinds := [], alts := [], laidByText := true, laidKinds := [.data, .data, .data, .data, .sentinel, .sentinel, .pinned], laidTests := true, laidLooks := .later }
def WordsReadUptoCardSaid : Prop := Claim7.holds Tryd.pinned (.plain (OpenSpec.upto wordsReadSpec)) wordsReadUptoCard

/-- THE SECOND FORM's CARD OF 'scullerylaw24.WordsSay'. -/
def wordsSayUptoCard : Claim7 := { stood := { row := wordsSayUptoRow, standIns := [], harness := (true, "a0ed814c460c339064632710bf60ac70e6f0c36d3225676c5ff32adf4be7042d"), looks := true }, kinds := [], alts := [], laidByText := true, laidKinds := [.data, .data, .data, .data, .sentinel, .sentinel, .pinned], laidTests := true, laidLooks := .later }
def WordsSayUptoCardSaid : Prop := Claim7.holds Tryd.pinned (.plain (OpenSpec.upto wordsSaySpec)) wordsSayUptoCard

/-- THE SECOND FORM's CARD OF 'scullerylaw24.WordsBack'. -/
def wordsBackUptoCard : Claim7 := { stood := { row := wordsBackUptoRow, standIns := [], harness := (true, "a0ed814c460c339064632710bf60ac70e6f0c36d3225676c5ff32adf4be7042d"), looks := true }, kinds := [], alts := [], laidByText := true, laidKinds := [.data, .data, .data, .data, .sentinel, .sentinel, .pinned], laidTests := true, laidLooks := .later }
def WordsBackUptoCardSaid : Prop := Claim7.holds Tryd.pinned (.plain (OpenSpec.upto wordsBackSpec)) wordsBackUptoCard

/-- THE SECOND FORM's CARD OF 'scullerylaw24.WordsApart'. -/
def wordsApartUptoCard : Claim7 := { stood := { row := wordsApartUptoRow, standIns := [], harness := (true, "a0ed814c460c339064632710bf60ac70e6f0c36d3225676c5ff32adf4be7042d"), looks := true }, kinds := [], alts := [], laidByText := true, laidKinds := [.data, .data, .data, .data, .sentinel, .sentinel, .pinned], laidTests := true, laidLooks := .later }
def WordsApartUptoCardSaid : Prop := Claim7.holds Tryd.pinned (.plain (OpenSpec.upto wordsApartSpec)) wordsApartUptoCard

/-- THE SECOND FORM's CARD OF 'scullerylaw24.WordsLong'. -/
def wordsLongUptoCard : Claim7 := { stood := { row := wordsLongUptoRow, standIns := [], harness := (true, "a0ed814c460c339064632710bf60ac70e6f0c36d3225676c5ff32adf4be7042d"), looks := true }, kinds := [], alts := [], laidByText := true, laidKinds := [.data, .data, .data, .data, .sentinel, .sentinel, .pinned], laidTests := true, laidLooks := .later }
def WordsLongUptoCardSaid : Prop := Claim7.holds Tryd.pinned (.plain (OpenSpec.upto wordsLongSpec)) wordsLongUptoCard
end Rows
end Go.Proofs.YtgiicfjibngooaaDoor
