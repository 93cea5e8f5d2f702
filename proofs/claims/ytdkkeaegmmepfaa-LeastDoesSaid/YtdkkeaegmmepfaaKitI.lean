/- A slice of integers: what append asks of the type. -/
import Derived.Test.YtdkkeaegmmepfaaKitW
namespace Go.Proofs.Ytdkkeaegmmepfaa
open Go.RowKit Go.Deep

theorem Try.info3 : (Try.prog.info? 3).map (fun i => (i.zero, i.size, i.bytes)) = some (some (.int .i64 0), 1, 8) := by kernel_rfl
end Go.Proofs.Ytdkkeaegmmepfaa
