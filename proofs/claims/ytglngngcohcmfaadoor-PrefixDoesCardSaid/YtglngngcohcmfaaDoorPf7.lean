/- Walks: strconv.FormatInt at base 2, of a number below 256. -/
import Derived.Test.YtglngngcohcmfaaDoorPf1
import Derived.Test.YtglngngcohcmfaaDoorPfMath
import Derived.Laws.IdiomStrings
import Derived.Lib.ItoaMem
namespace Go.Proofs.YtglngngcohcmfaaDoor
open Go.RowKit Go.Deep

/-- What the table of math/bits holds at 1. -/
def Tab (w : World) : Prop := w.cell? ⟨3, 1, none⟩ = some (.int .u8 1)
theorem Tab.keep {w w' : World} (h : Tab w) (hf : Fr NoB w w') : Tab w' := cell_fr' hf h (fun h => h)

theorem isPow_any (w : World) : Calls Tryd.prog 52 #[.int .i64 2] w (fun e w' => e = .returned (.bool true) ∧ w = w') := by
  have ha : bits BinOp.and IntKind.i64 2 1 = 0 := by decide +kernel
  go_enter Tryd.func52, Tryd.ntmps52
  go_wp2
  go_ret
  exact ⟨rfl, rfl⟩
theorem tz64_any (w : World) (h : Tab w) : Calls Tryd.prog 57 #[.int .u64 2] w (fun e w' => e = .returned (.int .i64 1) ∧ w = w') := by
  have ha : bits BinOp.and IntKind.u64 2 (IntKind.u64.wrap (-2)) = 2 := by decide +kernel
  have hw : IntKind.u64.wrap 571740426102707730 = 571740426102707730 := by decide +kernel
  have hc : w.cell? ⟨3, 1, none⟩ = some (.int .u8 1) := h
  clear h
  go_enter Tryd.func57, Tryd.ntmps57
  go_wp2
  go_ret
  exact ⟨rfl, rfl⟩
theorem tz_any (w : World) (h : Tab w) : Calls Tryd.prog 53 #[.int .u64 2] w (fun e w' => e = .returned (.int .i64 1) ∧ w = w') := by
  have hc := tz64_any w h
  have HC := Lib.hid hc
  clear hc h
  go_enter Tryd.func53, Tryd.ntmps53
  go_wp2_with fail
  refine HC.out.mono ?_
  rintro e w1 ⟨rfl, rfl⟩
  go_wp2
  go_ret
  exact ⟨rfl, rfl⟩
end Go.Proofs.YtglngngcohcmfaaDoor
