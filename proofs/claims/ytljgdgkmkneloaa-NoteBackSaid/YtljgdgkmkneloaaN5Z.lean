/- NoteBack, walked whole. -/
import Derived.Test.YtljgdgkmkneloaaN5y
import Derived.Test.YtljgdgkmkneloaaN5z
namespace Go.Proofs.Ytljgdgkmkneloaa
open Go Go.RowKit
set_option linter.unusedVariables false
set_option linter.unusedSimpArgs false

theorem back5_con (ns : List Nt) (size : Int) (hl : ns.length ≤ 9223372036854775807) (hw : WfN ns) : Con Try.prog 10 [.snap (slF encN ns), .lit (.int .i64 size)] [] (fun az hz => az = .lit (.bool true) ∧ hz = []) := by
  cases hm : ns.all mayN with
  | false => exact back5_no ns size hl hw hm
  | true => exact back5_ok ns size hl hw hm
end Go.Proofs.Ytljgdgkmkneloaa
