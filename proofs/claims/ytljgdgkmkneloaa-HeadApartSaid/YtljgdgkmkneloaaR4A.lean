/- HeadApart, walked whole. -/
import Derived.Test.YtljgdgkmkneloaaR4vTT
import Derived.Test.YtljgdgkmkneloaaR4vTF
import Derived.Test.YtljgdgkmkneloaaR4vFT
import Derived.Test.YtljgdgkmkneloaaR4vFF
namespace Go.Proofs.Ytljgdgkmkneloaa
open Go Go.RowKit
set_option linter.unusedVariables false
set_option linter.unusedSimpArgs false

theorem apart_con (size n m : Int) (h i : Hd) (ha0 : 0 ≤ h.addr) (ha : h.addr < 18446744073709551616) (ia0 : 0 ≤ i.addr) (ia : i.addr < 18446744073709551616) : Con Try.prog 6 [.lit (.int .i64 size), .lit (.int .i64 n), .lit (.int .i64 m), .agg (encH.cells h), .agg (encH.cells i)] [] (fun az hz => az = .lit (.bool true) ∧ hz = []) := by
  cases hm : mayH h with
  | false =>
    cases hm2 : mayH i with
    | false => exact apart_FF size n m h i ha0 ha ia0 ia hm hm2
    | true => exact apart_FT size n m h i ha0 ha ia0 ia hm hm2
  | true =>
    cases hm2 : mayH i with
    | false => exact apart_TF size n m h i ha0 ha ia0 ia hm hm2
    | true => exact apart_TT size n m h i ha0 ha ia0 ia hm hm2
end Go.Proofs.Ytljgdgkmkneloaa
