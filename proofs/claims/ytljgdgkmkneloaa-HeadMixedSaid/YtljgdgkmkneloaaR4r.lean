/- Arguments of the statements on heads. -/
import Derived.Test.YtljgdgkmkneloaaR4j
import Derived.Test.YtljgdgkmkneloaaG2
namespace Go.Proofs.Ytljgdgkmkneloaa
open Go Go.RowKit
set_option linter.unusedVariables false
set_option linter.unusedSimpArgs false

theorem row_sl {W : World} {a : Option Addr} {l : List UInt8} {cap : Nat} (hl : l.length ≤ cap) (hr : Row W a (bvs l)) : (slF encU l).holds (Was W) W (.slice a l.length cap) := by
  refine ⟨a, cap, bvs l, rfl, hl, fun hne => ?_, encU_bvs l, bvs_one l⟩
  obtain ⟨ad, hA, hc⟩ := hr hne
  refine ⟨ad, hA, ?_, hc⟩
  cases hb : bvs l with
  | nil => exact absurd hb hne
  | cons v vs =>
    have := World.block_lt_of_cell? W _ (hc 0 v (by rw [hb]; rfl))
    rwa [addr_block] at this
theorem u64_bd_wf {n : Int} (h : (Lit.int .u64 n).wf = true) : 0 ≤ n ∧ n < 18446744073709551616 := by
  obtain ⟨r, rfl⟩ := u64_of_wf h
  have := r.isLt
  omega
end Go.Proofs.Ytljgdgkmkneloaa
