/- HeadMixed: whatever is read. -/
import Derived.Test.YtljgdgkmkneloaaR4k
import Derived.Test.YtljgdgkmkneloaaR4y
import Derived.Test.YtljgdgkmkneloaaR4f
import Derived.Test.YtljgdgkmkneloaaBi
import Derived.Test.YtljgdgkmkneloaaG3
import Derived.Test.YtljgdgkmkneloaaBh
namespace Go.Proofs.Ytljgdgkmkneloaa
open Go Go.RowKit
set_option linter.unusedVariables false
set_option linter.unusedSimpArgs false

theorem read_any (raw : List UInt8) (hl : raw.length ≤ 100000) : ∃ (l : List UInt8) (hd : Hd) (s : Int), decide (s = 1) = okR raw ∧ Con Try.prog 17 [.snap (slF encU raw)] [] (fun az hz => az = .tup [.snap (slF encU l), .agg (encH.cells hd), .lit (.int .i64 s)] ∧ hz = []) := by
  cases hok : okR raw with
  | true => exact ⟨_, _, 1, rfl, con_frz (read_ok raw hl hok) _ rfl⟩
  | false =>
    refine ⟨[], ⟨0, 0, 0, 0⟩, stR raw, ?_, con_wk (read_no raw hl hok) ?_⟩
    · rcases stR_cases raw with e | e <;> rw [e] <;> rfl
    · rintro a hz ⟨rfl, rfl⟩
      exact ⟨_, .tup (.cons (.nilSl encU rfl) (.cons (.refl _) (.cons (.refl _) .nil))), rfl, rfl⟩
end Go.Proofs.Ytljgdgkmkneloaa
