/- What the program's tables say of bytes. -/
import Derived.Test.YtgdkeafdlehlaaaDoorRows
import Derived.WalkKit
namespace Go.Proofs.YtgdkeafdlehlaaaDoor
open Go
theorem Tryd.infoU8 : (Tryd.prog.info? 5).map (fun i => (i.zero, i.size, i.bytes)) = some (some (.int .u8 0), 1, 1) := by kernel_rfl
end Go.Proofs.YtgdkeafdlehlaaaDoor
