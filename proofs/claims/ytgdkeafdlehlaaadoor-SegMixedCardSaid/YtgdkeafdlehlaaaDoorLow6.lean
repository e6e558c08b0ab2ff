/- Low numbers. -/
import Derived.Test.YtgdkeafdlehlaaaDoorQa
namespace Go.Proofs.YtgdkeafdlehlaaaDoor
open Go Go.RowKit
set_option linter.unusedVariables false
set_option linter.unusedSimpArgs false

theorem low_bd6 (x : Int) {n : Int} (h : 1 ≤ n) : 0 ≤ low x n ∧ low x n < n := ⟨Int.emod_nonneg _ (by omega), Int.emod_lt_of_pos _ (by omega)⟩
end Go.Proofs.YtgdkeafdlehlaaaDoor
