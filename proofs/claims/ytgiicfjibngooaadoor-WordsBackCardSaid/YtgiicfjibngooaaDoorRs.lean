/- Bytes that the caller lends, qs0 what they read qs0. Nothing of the program stands here. -/
import Derived.Test.YtgiicfjibngooaaDoorG2
import Derived.Test.YtgiicfjibngooaaDoorJ2
namespace Go.Proofs.YtgiicfjibngooaaDoor
open Go Go.RowKit
set_option linter.unusedVariables false
theorem row_sl {W : World} {a : Option Addr} {l : List UInt8} {cap : Nat} (hl : l.length ≤ cap) (hr : Row W a (bvs l)) : (slF encU l).holds (Was W) W (.slice a l.length cap) := by
  refine ⟨a, cap, bvs l, rfl, hl, fun hne => ?_, encU_bvs l, bvs_one l⟩
  obtain ⟨ad, hA, hc⟩ := hr hne
  refine ⟨ad, hA, ?_, hc⟩
  cases hb : bvs l with
  | nil => exact absurd hb hne
  | cons v vs =>
    have := World.block_lt_of_cell? W _ (hc 0 v (by rw [hb]; rfl))
    rwa [addr_block] at this
end Go.Proofs.YtgiicfjibngooaaDoor
