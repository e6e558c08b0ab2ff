/- NoteTells, walked whole. -/
import Derived.Test.YtljgdgkmkneloaaN5tok
import Derived.Test.YtljgdgkmkneloaaN5tfull
import Derived.Test.YtljgdgkmkneloaaN5tinv
import Derived.Test.YtljgdgkmkneloaaN5tno
namespace Go.Proofs.Ytljgdgkmkneloaa
open Go Go.RowKit
set_option linter.unusedVariables false
set_option linter.unusedSimpArgs false

theorem tells5_con (ns : List Nt) (size : Int) (hl : ns.length ≤ 9223372036854775807) (hw : WfN ns) : Con Try.prog 8 [.snap (slF encN ns), .lit (.int .i64 size)] [] (fun az hz => az = .lit (.bool true) ∧ hz = []) := by
  cases hm : ns.all mayN with
  | false => exact tells5_no ns size hl hw hm
  | true =>
    cases hs : szn size with
    | false => exact tells5_inv ns size hl hw hm hs
    | true =>
      rcases Int.lt_or_le size ((bytesN ns).length : Int) with hz | hz
      · exact tells5_full ns size hl hw hm hs hz
      · exact tells5_ok ns size hl hw hm hs hz
end Go.Proofs.Ytljgdgkmkneloaa
