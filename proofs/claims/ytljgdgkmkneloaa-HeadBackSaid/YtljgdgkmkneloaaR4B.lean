/- HeadBack, walked whole. -/
import Derived.Test.YtljgdgkmkneloaaR4wF
import Derived.Test.YtljgdgkmkneloaaR4wT0
import Derived.Test.YtljgdgkmkneloaaR4wT1
namespace Go.Proofs.Ytljgdgkmkneloaa
open Go Go.RowKit
set_option linter.unusedVariables false
set_option linter.unusedSimpArgs false

theorem back_con (size n at_ : Int) (by_ : UInt8) (h : Hd) (ha0 : 0 ≤ h.addr) (ha : h.addr < 18446744073709551616) : Con Try.prog 4 [.lit (.int .i64 size), .lit (.int .i64 n), .agg (encH.cells h), .lit (.int .i64 at_), .lit (.int .u8 (by_.toNat : Int))] [] (fun az hz => az = .lit (.bool true) ∧ hz = []) := by
  cases hm : mayH h with
  | false => exact back_F size n at_ by_ h ha0 ha hm
  | true =>
    by_cases hb0 : by_ = 0
    · subst hb0
      exact back_T0 size n at_ h ha0 ha hm
    · exact back_T1 size n at_ by_ h ha0 ha hm hb0
end Go.Proofs.Ytljgdgkmkneloaa
