/-
  DERIVED. GIVEN WITH THE SEED: THE CARDS: each row of YtgcihcpojjifmaaDoorRows.lean that lists a variable, with what it lists TIED to the program's text (the seventh form; the later family's looks); each row that meets fmt, with fmt's text TOLD by the authors' own Lean function (tested against real Go, not proved from fmt's source: count such statements apart). THE CARD IS WHAT COUNTS. Prove the row's statement (the work); the ties are given (YtgcihcpojjifmaaDoorTie.lean); close each card by the builder's one call (the guide's Derived/Test/ToyasCard.lean, 'card_holds'). Laid BY PROGRAM, IN A SANDBOX (cutbox-door.mjs). By AI agents, Wed Nov 11 2026. No macro, syntax, notation, axiom, sorry.
-/
import Derived.Test.YtgcihcpojjifmaaDoorRows
import GoSem.ClaimSeven
namespace Go.Proofs.YtgcihcpojjifmaaDoor
namespace Rows

/-- THE TIED CARD OF 'scullerylaw20.TallyTells'. -/
def tallyTellsCard : Claim7 := { stood := { row := tallyTellsRow, standIns := [], harness := (true, "9574a0a076dac65a8e973d850b8e0e04206f6f8ed76d981cedef2c5e868d7475"), looks := false }, kinds := [], alts := [], laidByText := true, laidKinds := [.data, .data, .data, .data, .pinned], laidTests := true, laidLooks := .later }
def TallyTellsCardSaid : Prop := Claim7.holds Tryd.pinned (.plain (OpenSpec.ofChange tallyTellsSpec)) tallyTellsCard

/-- THE TIED CARD OF 'scullerylaw20.TallyLines'. -/
def tallyLinesCard : Claim7 := { stood := { row := tallyLinesRow, standIns := [], harness := (true, "9574a0a076dac65a8e973d850b8e0e04206f6f8ed76d981cedef2c5e868d7475"), looks := false }, kinds := [], alts := [], laidByText := true, laidKinds := [.data, .data, .data, .data, .pinned], laidTests := true, laidLooks := .later }
def TallyLinesCardSaid : Prop := Claim7.holds Tryd.pinned (.plain (OpenSpec.ofChange tallyLinesSpec)) tallyLinesCard

/-- THE TIED CARD OF 'scullerylaw20.TallyBars'. -/
def tallyBarsCard : Claim7 := { stood := { row := tallyBarsRow, standIns := [], harness := (true, "9574a0a076dac65a8e973d850b8e0e04206f6f8ed76d981cedef2c5e868d7475"), looks := false }, kinds := [], alts := [], laidByText := true, laidKinds := [.data, .data, .data, .data, .pinned], laidTests := true, laidLooks := .later }
def TallyBarsCardSaid : Prop := Claim7.holds Tryd.pinned (.plain (OpenSpec.ofChange tallyBarsSpec)) tallyBarsCard

/-- THE TIED CARD OF 'scullerylaw20.TallyNames'. -/
def tallyNamesCard : Claim7 := { stood := { row := tallyNamesRow, standIns := [], harness := (true, "9574a0a076dac65a8e973d850b8e0e04206f6f8ed76d981cedef2c5e868d7475"), looks := false }, kinds := [], alts := [], laidByText := true, laidKinds := [.data, .data, .data, .data, .pinned], laidTests := true, laidLooks := .later }
def TallyNamesCardSaid : Prop := Claim7.holds Tryd.pinned (.plain (OpenSpec.ofChange tallyNamesSpec)) tallyNamesCard

/-- THE SECOND FORM's CARD OF 'scullerylaw20.TallyTells'. -/
def tallyTellsUptoCard : Claim7 := { stood := { row := tallyTellsUptoRow, standIns := [], harness := (true, "9574a0a076dac65a8e973d850b8e0e04206f6f8ed76d981cedef2c5e868d7475"), looks := false }, kinds := [], alts := [], laidByText := true, laidKinds := [.data, .data, .data, .data, .pinned], laidTests := true, laidLooks := .later }
def TallyTellsUptoCardSaid : Prop := Claim7.holds Tryd.pinned (.plain (OpenSpec.upto tallyTellsSpec)) tallyTellsUptoCard

/-- THE SECOND FORM's CARD OF 'scullerylaw20.TallyLines'. -/
def tallyLinesUptoCard : Claim7 := { stood := { row := tallyLinesUptoRow, standIns := [], harness := (true, "9574a0a076dac65a8e973d850b8e0e04206f6f8ed76d981cedef2c5e868d7475"), looks := false }, kinds := [], alts := [], laidByText := true, laidKinds := [.data, .data, .data, .data, .pinned], laidTests := true, laidLooks := .later }
def TallyLinesUptoCardSaid : Prop := Claim7.holds Tryd.pinned (.plain (OpenSpec.upto tallyLinesSpec)) tallyLinesUptoCard

/-- THE SECOND FORM's CARD OF 'scullerylaw20.TallyBars'. -/
def tallyBarsUptoCard : Claim7 := { stood := { row := tallyBarsUptoRow, standIns := [], harness := (true, "9574a0a076dac65a8e973d850b8e0e04206f6f8ed76d981cedef2c5e868d7475"), looks := false }, kinds := [], alts := [], laidByText := true, laidKinds := [.data, .data, .data, .data, .pinned], laidTests := true, laidLooks := .later }
def TallyBarsUptoCardSaid : Prop := Claim7.holds Tryd.pinned (.plain (OpenSpec.upto tallyBarsSpec)) tallyBarsUptoCard

/-- THE SECOND FORM's CARD OF 'scullerylaw20.TallyNames'. -/
def tallyNamesUptoCard : Claim7 := { stood := { row := tallyNamesUptoRow, standIns := [], harness := (true, "9574a0a076dac65a8e973d850b8e0e04206f6f8ed76d981cedef2c5e868d7475"), looks := false }, kinds := [], alts := [], laidByText := true, laidKinds := [.data, .data, .data, .data, .pinned], laidTests := true, laidLooks := .later }
def TallyNamesUptoCardSaid : Prop := Claim7.holds Tryd.pinned (.plain (OpenSpec.upto tallyNamesSpec)) tallyNamesUptoCard
end Rows
end Go.Proofs.YtgcihcpojjifmaaDoor
