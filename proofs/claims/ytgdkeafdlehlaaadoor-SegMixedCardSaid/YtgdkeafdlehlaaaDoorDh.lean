/- Ahead of a region: only what is still wanted. Nothing of the program stands here. -/
import Derived.Test.YtgdkeafdlehlaaaDoorDn
import Derived.Test.YtgdkeafdlehlaaaDoorG4
namespace Go.Proofs.YtgdkeafdlehlaaaDoor
open Go Go.RowKit
set_option linter.unusedVariables false
section
variable {P : Program} {c : Ctx} {n : Nat} {Q : AQ} {fr : List (Nat × AV)} {H : List (Nat × Res)} {ops : Array Oper}
/-- ahead of a region: only what is still wanted -/
theorem a_liveAt (id : Nat) (ks js : List Nat) {b : Bool} {fr' : List (Nat × AV)} {H' : List (Nat × Res)} (hf : live ks fr = fr' := by rfl) (hs : Nat.blt fr'.length fr.length = true := by rfl) (hH : live js H = H' := by rfl) (h : ACode P c n (.region id ops b) Q fr' H') : ACode P c n (.region id ops b) Q fr H := a_live ks js hf hH h
end
end Go.Proofs.YtgdkeafdlehlaaaDoor
