/- HeadMixed, walked whole. -/
import Derived.Test.YtljgdgkmkneloaaR4K0
import Derived.Test.YtljgdgkmkneloaaR4K1
namespace Go.Proofs.Ytljgdgkmkneloaa
open Go Go.RowKit
set_option linter.unusedVariables false
set_option linter.unusedSimpArgs false

theorem mixed_con (size n m at_ : Int) (h : Hd) (ha0 : 0 ≤ h.addr) (ha : h.addr < 18446744073709551616) : Con Try.prog 7 [.lit (.int .i64 size), .lit (.int .i64 n), .lit (.int .i64 m), .agg (encH.cells h), .lit (.int .i64 at_)] [] (fun az hz => az = .lit (.bool true) ∧ hz = []) := by
  cases hm : mayH h with
  | false => exact mixed_F size n m at_ h ha0 ha hm
  | true => exact mixed_T size n m at_ h ha0 ha hm
end Go.Proofs.Ytljgdgkmkneloaa
