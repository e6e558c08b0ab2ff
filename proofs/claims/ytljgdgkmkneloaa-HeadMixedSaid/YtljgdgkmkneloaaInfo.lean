/- What the program's tables say of bytes. -/
import Derived.Test.YtljgdgkmkneloaaRows
import Derived.WalkKit
namespace Go.Proofs.Ytljgdgkmkneloaa
open Go
theorem Try.infoU8 : (Try.prog.info? 5).map (fun i => (i.zero, i.size, i.bytes)) = some (some (.int .u8 0), 1, 1) := by kernel_rfl
end Go.Proofs.Ytljgdgkmkneloaa
