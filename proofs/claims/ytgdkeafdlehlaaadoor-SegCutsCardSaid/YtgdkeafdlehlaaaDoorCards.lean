/-
  DERIVED. GIVEN WITH THE SEED: THE CARDS: each row of YtgdkeafdlehlaaaDoorRows.lean that lists a variable, with what it lists TIED to the program's text (the seventh form; the later family's looks); each row that meets fmt, with fmt's text TOLD by the authors' own Lean function (tested against real Go, not proved from fmt's source: count such statements apart). THE CARD IS WHAT COUNTS. Prove the row's statement (the work); the ties are given (YtgdkeafdlehlaaaDoorTie.lean); close each card by the builder's one call (the guide's Derived/Test/ToyasCard.lean, 'card_holds'). Laid BY PROGRAM, IN A SANDBOX (cutbox-door.mjs). By AI agents, Wed Nov 11 2026. No macro, syntax, notation, axiom, sorry.
-/
import Derived.Test.YtgdkeafdlehlaaaDoorRows
import GoSem.ClaimSeven
namespace Go.Proofs.YtgdkeafdlehlaaaDoor
namespace Rows

/-- THE TIED CARD OF 'scullerylaw6.SegCuts'. -/
def segCutsCard : Claim7 := { stood := { row := segCutsRow, standIns := [], harness := (true, "39744b2d9929edd7e50d5715abcc5b180f8e14b2ef6bc05b2f96c2127b8a0ba5"), looks := true }, kinds := [], alts := [], laidByText := true, laidKinds := [.data, .pinned], laidTests := true, laidLooks := .later }
def SegCutsCardSaid : Prop := Claim7.holds Tryd.pinned (.plain (OpenSpec.ofChange segCutsSpec)) segCutsCard

/-- THE TIED CARD OF 'scullerylaw6.SegSizes'. -/
def segSizesCard : Claim7 := { stood := { row := segSizesRow, standIns := [], harness := (true, "39744b2d9929edd7e50d5715abcc5b180f8e14b2ef6bc05b2f96c2127b8a0ba5"), looks := true }, kinds := [], alts := [], laidByText := true, laidKinds := [.data, .pinned], laidTests := true, laidLooks := .later }
def SegSizesCardSaid : Prop := Claim7.holds Tryd.pinned (.plain (OpenSpec.ofChange segSizesSpec)) segSizesCard

/-- THE TIED CARD OF 'scullerylaw6.SegMixed'. -/
def segMixedCard : Claim7 := { stood := { row := segMixedRow, standIns := [], harness := (true, "39744b2d9929edd7e50d5715abcc5b180f8e14b2ef6bc05b2f96c2127b8a0ba5"), looks := true }, kinds := [], alts := [], laidByText := true, laidKinds := [.data, .pinned], laidTests := true, laidLooks := .later }
def SegMixedCardSaid : Prop := Claim7.holds Tryd.pinned (.plain (OpenSpec.ofChange segMixedSpec)) segMixedCard

/-- THE TIED CARD OF 'scullerylaw6.SegBack'. -/
def segBackCard : Claim7 := { stood := { row := segBackRow, standIns := [], harness := (true, "39744b2d9929edd7e50d5715abcc5b180f8e14b2ef6bc05b2f96c2127b8a0ba5"), looks := true }, kinds := [], alts := [], laidByText := true, laidKinds := [.data, .pinned], laidTests := true, laidLooks := .later }
def SegBackCardSaid : Prop := Claim7.holds Tryd.pinned (.plain (OpenSpec.ofChange segBackSpec)) segBackCard

/-- THE SECOND FORM's CARD OF 'scullerylaw6.SegCuts'. -/
def segCutsUptoCard : Claim7 := { stood := { row := segCutsUptoRow, standIns := [], harness := (true, "39744b2d9929edd7e50d5715abcc5b180f8e14b2ef6bc05b2f96c2127b8a0ba5"), looks := true }, kinds := [], alts := [], laidByText := true, laidKinds := [.data, .pinned], laidTests := true, laidLooks := .later }
def SegCutsUptoCardSaid : Prop := Claim7.holds Tryd.pinned (.plain (OpenSpec.upto segCutsSpec)) segCutsUptoCard

/-- THE SECOND FORM's CARD OF 'scullerylaw6.SegSizes'. -/
def segSizesUptoCard : Claim7 := { stood := { row := segSizesUptoRow, standIns := [], harness := (true, "39744b2d9929edd7e50d5715abcc5b180f8e14b2ef6bc05b2f96c2127b8a0ba5"), looks := true }, kinds := [], alts := [], laidByText := true, laidKinds := [.data, .pinned], laidTests := true, laidLooks := .later }
def SegSizesUptoCardSaid : Prop := Claim7.holds Tryd.pinned (.plain (OpenSpec.upto segSizesSpec)) segSizesUptoCard

/-- THE SECOND FORM's CARD OF 'scullerylaw6.SegMixed'. -/
def segMixedUptoCard : Claim7 := { stood := { row := segMixedUptoRow, standIns := [], harness := (true, "39744b2d9929edd7e50d5715abcc5b180f8e14b2ef6bc05b2f96c2127b8a0ba5"), looks := true }, kinds := [], alts := [], laidByText := true, laidKinds := [.data, .pinned], laidTests := true, laidLooks := .later }
def SegMixedUptoCardSaid : Prop := Claim7.holds Tryd.pinned (.plain (OpenSpec.upto segMixedSpec)) segMixedUptoCard

/-- THE SECOND FORM's CARD OF 'scullerylaw6.SegBack'. -/
def segBackUptoCard : Claim7 := { stood := { row := segBackUptoRow, standIns := [], harness := (true, "39744b2d9929edd7e50d5715abcc5b180f8e14b2ef6bc05b2f96c2127b8a0ba5"), looks := true }, kinds := [], alts := [], laidByText := true, laidKinds := [.data, .pinned], laidTests := true, laidLooks := .later }
def SegBackUptoCardSaid : Prop := Claim7.holds Tryd.pinned (.plain (OpenSpec.upto segBackSpec)) segBackUptoCard
end Rows
end Go.Proofs.YtgdkeafdlehlaaaDoor
