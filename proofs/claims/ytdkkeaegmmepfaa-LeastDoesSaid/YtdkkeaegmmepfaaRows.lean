/-
  No cell of these rows narrows 'for every input' (looked for: loops, veiled, ifaces, maps, wideKeys, modest, calm, conditions, laid).
  DERIVED. THE GIVEN ROWS OF THIS SEAT. 5 by the template 'for every input the law returns true; each argument reads behind the call as it read before'; 0 by the template 'total and deterministic' (their statements: YtdkkeaegmmepfaaTotals.lean).
  GIVEN WITH THE SEED: the statements are not yours to turn. If you find one false, say at which input.
  Laid BY PROGRAM, IN A SANDBOX (cutbox-rows.mjs): the forced cells as the released guide's own fill.sh prints them over the translation 68833ef7a8a113d7… (all of the seat's roots in one cut). By AI agents, Wed Nov 11 2026. No macro, syntax, notation, axiom, sorry.
-/
import Derived.Test.YtdkkeaegmmepfaaChecked
import GoSem.Claim
import GoSem.ClaimJoined
import GoSem.ClaimMapViews
import Derived.JoinedTies
import Derived.KernelRfl
namespace Go.Proofs.Ytdkkeaegmmepfaa
/- THE CELL 'sum', in the pinned program and in every row, IS THE sha256 OF THE DUMP (.gsa) THAT YtdkkeaegmmepfaaProg.lean LOADS. Nothing in Lean hashes anything: it is a label: what it is worth is what the hold of that sum in a sandbox is worth. -/
noncomputable def Try.pinned : Pinned := { name := "ytdkkeaegmmepfaa", sum := "68833ef7a8a113d7a8d7a9956f1f096d9e33d2a46522f0dce10c503b0fea1c49", checked := Try.checked }
namespace Rows
def none {H : Type} : Left H := { results := [], args := [] }

/-- 'handpostlaw.LeastNone': WHATEVER THE INPUT: true; the input reads as it did. -/
def leastNoneSpec : ChangeSpec := { name := "leastNone", fn := fun _ => fun
  | [d1, d2, d3] => { results := [.lit (.bool true)], args := [d1, d2, d3] }
  | _ => none }
def leastNoneRow : OpenClaim := { program := "ytdkkeaegmmepfaa", sum := "68833ef7a8a113d7a8d7a9956f1f096d9e33d2a46522f0dce10c503b0fea1c49", func := "handpost/handpostlaw.LeastNone", spec := "leastNone", inPlace := ["slices.overlaps[handpost/api.Route]"], unfollowed := true, recurses := true, apart := false }
def LeastNoneSaid : Prop := leastNoneRow.holds Try.pinned (OpenSpec.ofChange leastNoneSpec)

/-- ITS FALSE NEIGHBOUR: 'it returns false'. Refute it at one input. -/
def leastNoneWrong : ChangeSpec := { name := "leastNone", fn := fun _ => fun
  | [d1, d2, d3] => { results := [.lit (.bool false)], args := [d1, d2, d3] }
  | _ => none }
def LeastNoneWrongFalsely : Prop := leastNoneRow.holds Try.pinned (OpenSpec.ofChange leastNoneWrong)

/-- 'handpostlaw.LeastFewest': WHATEVER THE INPUT: true; the input reads as it did. -/
def leastFewestSpec : ChangeSpec := { name := "leastFewest", fn := fun _ => fun
  | [d] => { results := [.lit (.bool true)], args := [d] }
  | _ => none }
def leastFewestRow : OpenClaim := { program := "ytdkkeaegmmepfaa", sum := "68833ef7a8a113d7a8d7a9956f1f096d9e33d2a46522f0dce10c503b0fea1c49", func := "handpost/handpostlaw.LeastFewest", spec := "leastFewest", inPlace := ["slices.overlaps[handpost/api.Route]"], unfollowed := true, recurses := true, apart := false }
def LeastFewestSaid : Prop := leastFewestRow.holds Try.pinned (OpenSpec.ofChange leastFewestSpec)

/-- ITS FALSE NEIGHBOUR: 'it returns false'. Refute it at one input. -/
def leastFewestWrong : ChangeSpec := { name := "leastFewest", fn := fun _ => fun
  | [d] => { results := [.lit (.bool false)], args := [d] }
  | _ => none }
def LeastFewestWrongFalsely : Prop := leastFewestRow.holds Try.pinned (OpenSpec.ofChange leastFewestWrong)

/-- 'handpostlaw.LeastSame': WHATEVER THE INPUT: true; the input reads as it did. -/
def leastSameSpec : ChangeSpec := { name := "leastSame", fn := fun _ => fun
  | [d1, d2] => { results := [.lit (.bool true)], args := [d1, d2] }
  | _ => none }
def leastSameRow : OpenClaim := { program := "ytdkkeaegmmepfaa", sum := "68833ef7a8a113d7a8d7a9956f1f096d9e33d2a46522f0dce10c503b0fea1c49", func := "handpost/handpostlaw.LeastSame", spec := "leastSame", inPlace := ["slices.overlaps[handpost/api.Route]"], unfollowed := true, recurses := true, apart := false }
def LeastSameSaid : Prop := leastSameRow.holds Try.pinned (OpenSpec.ofChange leastSameSpec)

/-- ITS FALSE NEIGHBOUR: 'it returns false'. Refute it at one input. -/
def leastSameWrong : ChangeSpec := { name := "leastSame", fn := fun _ => fun
  | [d1, d2] => { results := [.lit (.bool false)], args := [d1, d2] }
  | _ => none }
def LeastSameWrongFalsely : Prop := leastSameRow.holds Try.pinned (OpenSpec.ofChange leastSameWrong)

/-- 'handpostlaw.LeastDoes': WHATEVER THE INPUT: true; the input reads as it did. -/
def leastDoesSpec : ChangeSpec := { name := "leastDoes", fn := fun _ => fun
  | [d1, d2, d3] => { results := [.lit (.bool true)], args := [d1, d2, d3] }
  | _ => none }
def leastDoesRow : OpenClaim := { program := "ytdkkeaegmmepfaa", sum := "68833ef7a8a113d7a8d7a9956f1f096d9e33d2a46522f0dce10c503b0fea1c49", func := "handpost/handpostlaw.LeastDoes", spec := "leastDoes", inPlace := ["slices.overlaps[handpost/api.Route]"], unfollowed := true, recurses := true, apart := false }
def LeastDoesSaid : Prop := leastDoesRow.holds Try.pinned (OpenSpec.ofChange leastDoesSpec)

/-- ITS FALSE NEIGHBOUR: 'it returns false'. Refute it at one input. -/
def leastDoesWrong : ChangeSpec := { name := "leastDoes", fn := fun _ => fun
  | [d1, d2, d3] => { results := [.lit (.bool false)], args := [d1, d2, d3] }
  | _ => none }
def LeastDoesWrongFalsely : Prop := leastDoesRow.holds Try.pinned (OpenSpec.ofChange leastDoesWrong)

/-- 'handpostlaw.LeastDiff': WHATEVER THE INPUT: true; the input reads as it did. -/
def leastDiffSpec : ChangeSpec := { name := "leastDiff", fn := fun _ => fun
  | [d1, d2] => { results := [.lit (.bool true)], args := [d1, d2] }
  | _ => none }
def leastDiffRow : OpenClaim := { program := "ytdkkeaegmmepfaa", sum := "68833ef7a8a113d7a8d7a9956f1f096d9e33d2a46522f0dce10c503b0fea1c49", func := "handpost/handpostlaw.LeastDiff", spec := "leastDiff", inPlace := ["slices.overlaps[handpost/api.Route]"], unfollowed := true, recurses := true, apart := false }
def LeastDiffSaid : Prop := leastDiffRow.holds Try.pinned (OpenSpec.ofChange leastDiffSpec)

/-- ITS FALSE NEIGHBOUR: 'it returns false'. Refute it at one input. -/
def leastDiffWrong : ChangeSpec := { name := "leastDiff", fn := fun _ => fun
  | [d1, d2] => { results := [.lit (.bool false)], args := [d1, d2] }
  | _ => none }
def LeastDiffWrongFalsely : Prop := leastDiffRow.holds Try.pinned (OpenSpec.ofChange leastDiffWrong)

/- THE SECOND FORM. 'bulk': how many values and letters a reading holds, each counted each time it is reached (what is shared counts as often as it is met; a slice's spare places count too). A statement '..UptoSaid' is the law's where the arguments, and the package variables that the reading takes, are together of bulk at most 1048576: NARROWER than '..Said'. Prove '..Said' where nothing that the law and all that it calls make is longer than what came in: it says more and counts as full. Else prove '..UptoSaid'. A law counts once. -/
mutual
def uptoBulk {H : Type} : DataW H → Nat
  | .lit (.string bytes) => bytes.length + 1
  | .lit _ => 1
  | .nil => 1
  | .ptr d => uptoBulk d + 1
  | .slice elems spare => uptoBulkAll elems + uptoBulkAll spare + 1
  | .agg parts => uptoBulkAll parts + 1
  | .iface _ d => uptoBulk d + 1
  | .map entries => uptoBulkEntries entries + 1
  | .held _ => 1
def uptoBulkAll {H : Type} : List (DataW H) → Nat
  | [] => 0
  | d :: r => uptoBulk d + uptoBulkAll r
def uptoBulkEntries {H : Type} : List (Lit × DataW H) → Nat
  | [] => 0
  | x :: r => uptoBulkEntry x + uptoBulkEntries r
def uptoBulkEntry {H : Type} : Lit × DataW H → Nat
  | (.string bytes, d) => bytes.length + uptoBulk d + 1
  | (_, d) => uptoBulk d + 1
 end
def uptoSmall : (H : Type) → List (DataW H) → Bool := fun _ ds => decide (uptoBulkAll ds ≤ 1048576)
def OpenSpec.upto (s : _root_.Go.ChangeSpec) : _root_.Go.OpenSpec := { _root_.Go.OpenSpec.ofChange s with cond := some uptoSmall }

/-- 'handpostlaw.LeastNone', WHERE WHAT IT READS IS OF BULK AT MOST 1048576: true; the input reads as it did. -/
def leastNoneUptoRow : OpenClaim := { program := "ytdkkeaegmmepfaa", sum := "68833ef7a8a113d7a8d7a9956f1f096d9e33d2a46522f0dce10c503b0fea1c49", func := "handpost/handpostlaw.LeastNone", spec := "leastNone", inPlace := ["slices.overlaps[handpost/api.Route]"], unfollowed := true, recurses := true, apart := false, narrowed := true }
def LeastNoneUptoSaid : Prop := leastNoneUptoRow.holds Try.pinned (OpenSpec.upto leastNoneSpec)

/-- 'handpostlaw.LeastFewest', WHERE WHAT IT READS IS OF BULK AT MOST 1048576: true; the input reads as it did. -/
def leastFewestUptoRow : OpenClaim := { program := "ytdkkeaegmmepfaa", sum := "68833ef7a8a113d7a8d7a9956f1f096d9e33d2a46522f0dce10c503b0fea1c49", func := "handpost/handpostlaw.LeastFewest", spec := "leastFewest", inPlace := ["slices.overlaps[handpost/api.Route]"], unfollowed := true, recurses := true, apart := false, narrowed := true }
def LeastFewestUptoSaid : Prop := leastFewestUptoRow.holds Try.pinned (OpenSpec.upto leastFewestSpec)

/-- 'handpostlaw.LeastSame', WHERE WHAT IT READS IS OF BULK AT MOST 1048576: true; the input reads as it did. -/
def leastSameUptoRow : OpenClaim := { program := "ytdkkeaegmmepfaa", sum := "68833ef7a8a113d7a8d7a9956f1f096d9e33d2a46522f0dce10c503b0fea1c49", func := "handpost/handpostlaw.LeastSame", spec := "leastSame", inPlace := ["slices.overlaps[handpost/api.Route]"], unfollowed := true, recurses := true, apart := false, narrowed := true }
def LeastSameUptoSaid : Prop := leastSameUptoRow.holds Try.pinned (OpenSpec.upto leastSameSpec)

/-- 'handpostlaw.LeastDoes', WHERE WHAT IT READS IS OF BULK AT MOST 1048576: true; the input reads as it did. -/
def leastDoesUptoRow : OpenClaim := { program := "ytdkkeaegmmepfaa", sum := "68833ef7a8a113d7a8d7a9956f1f096d9e33d2a46522f0dce10c503b0fea1c49", func := "handpost/handpostlaw.LeastDoes", spec := "leastDoes", inPlace := ["slices.overlaps[handpost/api.Route]"], unfollowed := true, recurses := true, apart := false, narrowed := true }
def LeastDoesUptoSaid : Prop := leastDoesUptoRow.holds Try.pinned (OpenSpec.upto leastDoesSpec)

/-- 'handpostlaw.LeastDiff', WHERE WHAT IT READS IS OF BULK AT MOST 1048576: true; the input reads as it did. -/
def leastDiffUptoRow : OpenClaim := { program := "ytdkkeaegmmepfaa", sum := "68833ef7a8a113d7a8d7a9956f1f096d9e33d2a46522f0dce10c503b0fea1c49", func := "handpost/handpostlaw.LeastDiff", spec := "leastDiff", inPlace := ["slices.overlaps[handpost/api.Route]"], unfollowed := true, recurses := true, apart := false, narrowed := true }
def LeastDiffUptoSaid : Prop := leastDiffUptoRow.holds Try.pinned (OpenSpec.upto leastDiffSpec)

end Rows
end Go.Proofs.Ytdkkeaegmmepfaa
