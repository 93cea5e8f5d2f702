/- The library's sort of integers at this seat's dump. -/
import Derived.Test.YtdkkeaegmmepfaaLsLaid
import Derived.Test.YtdkkeaegmmepfaaKitW
namespace Go.Proofs.Ytdkkeaegmmepfaa
open Go.RowKit Go.Deep Go.Sort
theorem LsShelf.sort_ints (blk off cap : Nat) (zs : List Int) (w : World) (hH : Holds (Value.int .i64) w blk off zs.toArray) (hblk : blk < w.heap.size) (hsz : zs.length < 4611686018427387904) :
    Calls Try.prog 70 #[.slice (some ⟨blk, off, none⟩) zs.length cap] w fun e w' =>
      e = .returned (.tuple #[]) ∧ ∃ n os, w' = grow (putRow (Value.int .i64) (Sort.ahead w n) blk off (zs.mergeSort fun x y => decide (x ≤ y)).toArray) os := Try.slices_Sort_int blk off cap zs w hH hblk hsz
end Go.Proofs.Ytdkkeaegmmepfaa
