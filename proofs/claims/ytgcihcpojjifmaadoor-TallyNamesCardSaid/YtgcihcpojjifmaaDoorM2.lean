/- Small letters, walked. -/
import Derived.Test.YtgcihcpojjifmaaDoorM1
namespace Go.Proofs.YtgcihcpojjifmaaDoor
open Go Go.RowKit
set_option linter.unusedVariables false
set_option linter.unusedSimpArgs false
end Go.Proofs.YtgcihcpojjifmaaDoor
