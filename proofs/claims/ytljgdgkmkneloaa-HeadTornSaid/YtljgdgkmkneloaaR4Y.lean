/- HeadTorn, walked whole. -/
import Derived.Test.YtljgdgkmkneloaaR4z
namespace Go.Proofs.Ytljgdgkmkneloaa
open Go Go.RowKit
set_option linter.unusedVariables false
set_option linter.unusedSimpArgs false

theorem torn_con (size n cut : Int) (v : UInt8) (h : Hd) (ha0 : 0 ≤ h.addr) (ha : h.addr < 18446744073709551616) : Con Try.prog 5 [.lit (.int .i64 size), .lit (.int .i64 n), .agg (encH.cells h), .lit (.int .i64 cut), .lit (.int .u8 (v.toNat : Int))] [] (fun az hz => az = .lit (.bool true) ∧ hz = []) := by
  cases hm : mayH h with
  | false => exact torn_F size n cut v h ha0 ha hm
  | true => exact torn_T size n cut v h ha0 ha hm
end Go.Proofs.Ytljgdgkmkneloaa
