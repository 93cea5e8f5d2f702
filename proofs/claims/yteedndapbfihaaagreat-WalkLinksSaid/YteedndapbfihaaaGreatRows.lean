/-
  No cell of these rows narrows 'for every input' (looked for: loops, veiled, ifaces, maps, wideKeys, modest, calm, conditions, laid).
  DERIVED. THE GIVEN ROWS OF THIS SEAT. 9 by the template 'for every input the law returns true; each argument reads behind the call as it read before'; 0 by the template 'total and deterministic' (their statements: YteedndapbfihaaaGreatTotals.lean).
  GIVEN WITH THE SEED: the statements are not yours to turn. If you find one false, say at which input.
  Laid BY PROGRAM, IN A SANDBOX (cutbox-rows.mjs): the forced cells as the released guide's own fill.sh prints them over the translation 41ee498bd66c082e… (all of the seat's roots in one cut). By AI agents, Wed Nov 11 2026. No macro, syntax, notation, axiom, sorry.
-/
import Derived.Test.YteedndapbfihaaaGreatChecked
import GoSem.Claim
import GoSem.ClaimJoined
import GoSem.ClaimMapViews
import Derived.JoinedTies
import Derived.KernelRfl
namespace Go.Proofs.YteedndapbfihaaaGreat
/- THE CELL 'sum', in the pinned program and in every row, IS THE sha256 OF THE DUMP (.gsa) THAT YteedndapbfihaaaGreatProg.lean LOADS. Nothing in Lean hashes anything: it is a label: what it is worth is what the hold of that sum in a sandbox is worth. -/
noncomputable def Tryz.pinned : Pinned := { name := "yteedndapbfihaaagreat", sum := "41ee498bd66c082e8e804139966ca690c8c051106a17b32190a6c83621062eb1", checked := Tryz.checked }
namespace Rows
def none {H : Type} : Left H := { results := [], args := [] }

/-- 'handpostlaw.FibDoes': WHATEVER THE INPUT: true; the input reads as it did. -/
def fibDoesSpec : ChangeSpec := { name := "fibDoes", fn := fun _ => fun
  | [d1, d2, d3] => { results := [.lit (.bool true)], args := [d1, d2, d3] }
  | _ => none }
def fibDoesRow : OpenClaim := { program := "yteedndapbfihaaagreat", sum := "41ee498bd66c082e8e804139966ca690c8c051106a17b32190a6c83621062eb1", func := "handpost/handpostlaw.FibDoes", spec := "fibDoes", inPlace := ["slices.overlaps[handpost/api.Route]"], unfollowed := true, recurses := true, apart := false }
def FibDoesSaid : Prop := fibDoesRow.holds Tryz.pinned (OpenSpec.ofChange fibDoesSpec)

/-- ITS FALSE NEIGHBOUR: 'it returns false'. Refute it at one input. -/
def fibDoesWrong : ChangeSpec := { name := "fibDoes", fn := fun _ => fun
  | [d1, d2, d3] => { results := [.lit (.bool false)], args := [d1, d2, d3] }
  | _ => none }
def FibDoesWrongFalsely : Prop := fibDoesRow.holds Tryz.pinned (OpenSpec.ofChange fibDoesWrong)

/-- 'handpostlaw.FibOwns': WHATEVER THE INPUT: true; the input reads as it did. -/
def fibOwnsSpec : ChangeSpec := { name := "fibOwns", fn := fun _ => fun
  | [d1, d2, d3] => { results := [.lit (.bool true)], args := [d1, d2, d3] }
  | _ => none }
def fibOwnsRow : OpenClaim := { program := "yteedndapbfihaaagreat", sum := "41ee498bd66c082e8e804139966ca690c8c051106a17b32190a6c83621062eb1", func := "handpost/handpostlaw.FibOwns", spec := "fibOwns", inPlace := ["slices.overlaps[handpost/api.Route]"], unfollowed := true, recurses := true, apart := false }
def FibOwnsSaid : Prop := fibOwnsRow.holds Tryz.pinned (OpenSpec.ofChange fibOwnsSpec)

/-- ITS FALSE NEIGHBOUR: 'it returns false'. Refute it at one input. -/
def fibOwnsWrong : ChangeSpec := { name := "fibOwns", fn := fun _ => fun
  | [d1, d2, d3] => { results := [.lit (.bool false)], args := [d1, d2, d3] }
  | _ => none }
def FibOwnsWrongFalsely : Prop := fibOwnsRow.holds Tryz.pinned (OpenSpec.ofChange fibOwnsWrong)

/-- 'handpostlaw.FibRoutes': WHATEVER THE INPUT: true; the input reads as it did. -/
def fibRoutesSpec : ChangeSpec := { name := "fibRoutes", fn := fun _ => fun
  | [d1, d2, d3, d4] => { results := [.lit (.bool true)], args := [d1, d2, d3, d4] }
  | _ => none }
def fibRoutesRow : OpenClaim := { program := "yteedndapbfihaaagreat", sum := "41ee498bd66c082e8e804139966ca690c8c051106a17b32190a6c83621062eb1", func := "handpost/handpostlaw.FibRoutes", spec := "fibRoutes", inPlace := ["slices.overlaps[handpost/api.Route]"], unfollowed := true, recurses := true, apart := false }
def FibRoutesSaid : Prop := fibRoutesRow.holds Tryz.pinned (OpenSpec.ofChange fibRoutesSpec)

/-- ITS FALSE NEIGHBOUR: 'it returns false'. Refute it at one input. -/
def fibRoutesWrong : ChangeSpec := { name := "fibRoutes", fn := fun _ => fun
  | [d1, d2, d3, d4] => { results := [.lit (.bool false)], args := [d1, d2, d3, d4] }
  | _ => none }
def FibRoutesWrongFalsely : Prop := fibRoutesRow.holds Tryz.pinned (OpenSpec.ofChange fibRoutesWrong)

/-- 'handpostlaw.FibSame': WHATEVER THE INPUT: true; the input reads as it did. -/
def fibSameSpec : ChangeSpec := { name := "fibSame", fn := fun _ => fun
  | [d1, d2, d3] => { results := [.lit (.bool true)], args := [d1, d2, d3] }
  | _ => none }
def fibSameRow : OpenClaim := { program := "yteedndapbfihaaagreat", sum := "41ee498bd66c082e8e804139966ca690c8c051106a17b32190a6c83621062eb1", func := "handpost/handpostlaw.FibSame", spec := "fibSame", inPlace := ["slices.overlaps[handpost/api.Route]"], unfollowed := true, recurses := true, apart := false }
def FibSameSaid : Prop := fibSameRow.holds Tryz.pinned (OpenSpec.ofChange fibSameSpec)

/-- ITS FALSE NEIGHBOUR: 'it returns false'. Refute it at one input. -/
def fibSameWrong : ChangeSpec := { name := "fibSame", fn := fun _ => fun
  | [d1, d2, d3] => { results := [.lit (.bool false)], args := [d1, d2, d3] }
  | _ => none }
def FibSameWrongFalsely : Prop := fibSameRow.holds Tryz.pinned (OpenSpec.ofChange fibSameWrong)

/-- 'handpostlaw.WalkDoes': WHATEVER THE INPUT: true; the input reads as it did. -/
def walkDoesSpec : ChangeSpec := { name := "walkDoes", fn := fun _ => fun
  | [d1, d2, d3, d4] => { results := [.lit (.bool true)], args := [d1, d2, d3, d4] }
  | _ => none }
def walkDoesRow : OpenClaim := { program := "yteedndapbfihaaagreat", sum := "41ee498bd66c082e8e804139966ca690c8c051106a17b32190a6c83621062eb1", func := "handpost/handpostlaw.WalkDoes", spec := "walkDoes", inPlace := ["slices.overlaps[handpost/api.Route]"], unfollowed := true, recurses := true, apart := false }
def WalkDoesSaid : Prop := walkDoesRow.holds Tryz.pinned (OpenSpec.ofChange walkDoesSpec)

/-- ITS FALSE NEIGHBOUR: 'it returns false'. Refute it at one input. -/
def walkDoesWrong : ChangeSpec := { name := "walkDoes", fn := fun _ => fun
  | [d1, d2, d3, d4] => { results := [.lit (.bool false)], args := [d1, d2, d3, d4] }
  | _ => none }
def WalkDoesWrongFalsely : Prop := walkDoesRow.holds Tryz.pinned (OpenSpec.ofChange walkDoesWrong)

/-- 'handpostlaw.WalkTime': WHATEVER THE INPUT: true; the input reads as it did. -/
def walkTimeSpec : ChangeSpec := { name := "walkTime", fn := fun _ => fun
  | [d1, d2, d3, d4] => { results := [.lit (.bool true)], args := [d1, d2, d3, d4] }
  | _ => none }
def walkTimeRow : OpenClaim := { program := "yteedndapbfihaaagreat", sum := "41ee498bd66c082e8e804139966ca690c8c051106a17b32190a6c83621062eb1", func := "handpost/handpostlaw.WalkTime", spec := "walkTime", inPlace := ["slices.overlaps[handpost/api.Route]"], unfollowed := true, recurses := true, apart := false }
def WalkTimeSaid : Prop := walkTimeRow.holds Tryz.pinned (OpenSpec.ofChange walkTimeSpec)

/-- ITS FALSE NEIGHBOUR: 'it returns false'. Refute it at one input. -/
def walkTimeWrong : ChangeSpec := { name := "walkTime", fn := fun _ => fun
  | [d1, d2, d3, d4] => { results := [.lit (.bool false)], args := [d1, d2, d3, d4] }
  | _ => none }
def WalkTimeWrongFalsely : Prop := walkTimeRow.holds Tryz.pinned (OpenSpec.ofChange walkTimeWrong)

/-- 'handpostlaw.WalkLinks': WHATEVER THE INPUT: true; the input reads as it did. -/
def walkLinksSpec : ChangeSpec := { name := "walkLinks", fn := fun _ => fun
  | [d1, d2, d3] => { results := [.lit (.bool true)], args := [d1, d2, d3] }
  | _ => none }
def walkLinksRow : OpenClaim := { program := "yteedndapbfihaaagreat", sum := "41ee498bd66c082e8e804139966ca690c8c051106a17b32190a6c83621062eb1", func := "handpost/handpostlaw.WalkLinks", spec := "walkLinks", inPlace := ["slices.overlaps[handpost/api.Route]"], unfollowed := true, recurses := true, apart := false }
def WalkLinksSaid : Prop := walkLinksRow.holds Tryz.pinned (OpenSpec.ofChange walkLinksSpec)

/-- ITS FALSE NEIGHBOUR: 'it returns false'. Refute it at one input. -/
def walkLinksWrong : ChangeSpec := { name := "walkLinks", fn := fun _ => fun
  | [d1, d2, d3] => { results := [.lit (.bool false)], args := [d1, d2, d3] }
  | _ => none }
def WalkLinksWrongFalsely : Prop := walkLinksRow.holds Tryz.pinned (OpenSpec.ofChange walkLinksWrong)

/-- 'handpostlaw.WalkStraight': WHATEVER THE INPUT: true; the input reads as it did. -/
def walkStraightSpec : ChangeSpec := { name := "walkStraight", fn := fun _ => fun
  | [d1, d2] => { results := [.lit (.bool true)], args := [d1, d2] }
  | _ => none }
def walkStraightRow : OpenClaim := { program := "yteedndapbfihaaagreat", sum := "41ee498bd66c082e8e804139966ca690c8c051106a17b32190a6c83621062eb1", func := "handpost/handpostlaw.WalkStraight", spec := "walkStraight", inPlace := ["slices.overlaps[handpost/api.Route]"], unfollowed := true, recurses := true, apart := false }
def WalkStraightSaid : Prop := walkStraightRow.holds Tryz.pinned (OpenSpec.ofChange walkStraightSpec)

/-- ITS FALSE NEIGHBOUR: 'it returns false'. Refute it at one input. -/
def walkStraightWrong : ChangeSpec := { name := "walkStraight", fn := fun _ => fun
  | [d1, d2] => { results := [.lit (.bool false)], args := [d1, d2] }
  | _ => none }
def WalkStraightWrongFalsely : Prop := walkStraightRow.holds Tryz.pinned (OpenSpec.ofChange walkStraightWrong)

/-- 'handpostlaw.WalkHome': WHATEVER THE INPUT: true; the input reads as it did. -/
def walkHomeSpec : ChangeSpec := { name := "walkHome", fn := fun _ => fun
  | [d1, d2, d3] => { results := [.lit (.bool true)], args := [d1, d2, d3] }
  | _ => none }
def walkHomeRow : OpenClaim := { program := "yteedndapbfihaaagreat", sum := "41ee498bd66c082e8e804139966ca690c8c051106a17b32190a6c83621062eb1", func := "handpost/handpostlaw.WalkHome", spec := "walkHome", inPlace := ["slices.overlaps[handpost/api.Route]"], unfollowed := true, recurses := true, apart := false }
def WalkHomeSaid : Prop := walkHomeRow.holds Tryz.pinned (OpenSpec.ofChange walkHomeSpec)

/-- ITS FALSE NEIGHBOUR: 'it returns false'. Refute it at one input. -/
def walkHomeWrong : ChangeSpec := { name := "walkHome", fn := fun _ => fun
  | [d1, d2, d3] => { results := [.lit (.bool false)], args := [d1, d2, d3] }
  | _ => none }
def WalkHomeWrongFalsely : Prop := walkHomeRow.holds Tryz.pinned (OpenSpec.ofChange walkHomeWrong)

/- THE SECOND FORM. 'bulk': how many values and letters a reading holds, each counted each time it is reached (what is shared counts as often as it is met; a slice's spare places count too). A statement '..UptoSaid' is the law's where the arguments, and the package variables that the reading takes, are together of bulk at most 1048576: NARROWER than '..Said'. Prove '..Said' where nothing that the law and all that it calls make is longer than what came in: it says more and counts as full. Else prove '..UptoSaid'. A law counts once. -/
mutual
def uptoBulk {H : Type} : DataW H → Nat
  | .lit (.string bytes) => bytes.length + 1
  | .lit _ => 1
  | .nil => 1
  | .ptr d => uptoBulk d + 1
  | .slice elems spare => uptoBulkAll elems + uptoBulkAll spare + 1
  | .agg parts => uptoBulkAll parts + 1
  | .iface _ d => uptoBulk d + 1
  | .map entries => uptoBulkEntries entries + 1
  | .held _ => 1
def uptoBulkAll {H : Type} : List (DataW H) → Nat
  | [] => 0
  | d :: r => uptoBulk d + uptoBulkAll r
def uptoBulkEntries {H : Type} : List (Lit × DataW H) → Nat
  | [] => 0
  | x :: r => uptoBulkEntry x + uptoBulkEntries r
def uptoBulkEntry {H : Type} : Lit × DataW H → Nat
  | (.string bytes, d) => bytes.length + uptoBulk d + 1
  | (_, d) => uptoBulk d + 1
 end
def uptoSmall : (H : Type) → List (DataW H) → Bool := fun _ ds => decide (uptoBulkAll ds ≤ 1048576)
def OpenSpec.upto (s : _root_.Go.ChangeSpec) : _root_.Go.OpenSpec := { _root_.Go.OpenSpec.ofChange s with cond := some uptoSmall }

/-- 'handpostlaw.FibDoes', WHERE WHAT IT READS IS OF BULK AT MOST 1048576: true; the input reads as it did. -/
def fibDoesUptoRow : OpenClaim := { program := "yteedndapbfihaaagreat", sum := "41ee498bd66c082e8e804139966ca690c8c051106a17b32190a6c83621062eb1", func := "handpost/handpostlaw.FibDoes", spec := "fibDoes", inPlace := ["slices.overlaps[handpost/api.Route]"], unfollowed := true, recurses := true, apart := false, narrowed := true }
def FibDoesUptoSaid : Prop := fibDoesUptoRow.holds Tryz.pinned (OpenSpec.upto fibDoesSpec)

/-- 'handpostlaw.FibOwns', WHERE WHAT IT READS IS OF BULK AT MOST 1048576: true; the input reads as it did. -/
def fibOwnsUptoRow : OpenClaim := { program := "yteedndapbfihaaagreat", sum := "41ee498bd66c082e8e804139966ca690c8c051106a17b32190a6c83621062eb1", func := "handpost/handpostlaw.FibOwns", spec := "fibOwns", inPlace := ["slices.overlaps[handpost/api.Route]"], unfollowed := true, recurses := true, apart := false, narrowed := true }
def FibOwnsUptoSaid : Prop := fibOwnsUptoRow.holds Tryz.pinned (OpenSpec.upto fibOwnsSpec)

/-- 'handpostlaw.FibRoutes', WHERE WHAT IT READS IS OF BULK AT MOST 1048576: true; the input reads as it did. -/
def fibRoutesUptoRow : OpenClaim := { program := "yteedndapbfihaaagreat", sum := "41ee498bd66c082e8e804139966ca690c8c051106a17b32190a6c83621062eb1", func := "handpost/handpostlaw.FibRoutes", spec := "fibRoutes", inPlace := ["slices.overlaps[handpost/api.Route]"], unfollowed := true, recurses := true, apart := false, narrowed := true }
def FibRoutesUptoSaid : Prop := fibRoutesUptoRow.holds Tryz.pinned (OpenSpec.upto fibRoutesSpec)

/-- 'handpostlaw.FibSame', WHERE WHAT IT READS IS OF BULK AT MOST 1048576: true; the input reads as it did. -/
def fibSameUptoRow : OpenClaim := { program := "yteedndapbfihaaagreat", sum := "41ee498bd66c082e8e804139966ca690c8c051106a17b32190a6c83621062eb1", func := "handpost/handpostlaw.FibSame", spec := "fibSame", inPlace := ["slices.overlaps[handpost/api.Route]"], unfollowed := true, recurses := true, apart := false, narrowed := true }
def FibSameUptoSaid : Prop := fibSameUptoRow.holds Tryz.pinned (OpenSpec.upto fibSameSpec)

/-- 'handpostlaw.WalkDoes', WHERE WHAT IT READS IS OF BULK AT MOST 1048576: true; the input reads as it did. -/
def walkDoesUptoRow : OpenClaim := { program := "yteedndapbfihaaagreat", sum := "41ee498bd66c082e8e804139966ca690c8c051106a17b32190a6c83621062eb1", func := "handpost/handpostlaw.WalkDoes", spec := "walkDoes", inPlace := ["slices.overlaps[handpost/api.Route]"], unfollowed := true, recurses := true, apart := false, narrowed := true }
def WalkDoesUptoSaid : Prop := walkDoesUptoRow.holds Tryz.pinned (OpenSpec.upto walkDoesSpec)

/-- 'handpostlaw.WalkTime', WHERE WHAT IT READS IS OF BULK AT MOST 1048576: true; the input reads as it did. -/
def walkTimeUptoRow : OpenClaim := { program := "yteedndapbfihaaagreat", sum := "41ee498bd66c082e8e804139966ca690c8c051106a17b32190a6c83621062eb1", func := "handpost/handpostlaw.WalkTime", spec := "walkTime", inPlace := ["slices.overlaps[handpost/api.Route]"], unfollowed := true, recurses := true, apart := false, narrowed := true }
def WalkTimeUptoSaid : Prop := walkTimeUptoRow.holds Tryz.pinned (OpenSpec.upto walkTimeSpec)

/-- 'handpostlaw.WalkLinks', WHERE WHAT IT READS IS OF BULK AT MOST 1048576: true; the input reads as it did. -/
def walkLinksUptoRow : OpenClaim := { program := "yteedndapbfihaaagreat", sum := "41ee498bd66c082e8e804139966ca690c8c051106a17b32190a6c83621062eb1", func := "handpost/handpostlaw.WalkLinks", spec := "walkLinks", inPlace := ["slices.overlaps[handpost/api.Route]"], unfollowed := true, recurses := true, apart := false, narrowed := true }
def WalkLinksUptoSaid : Prop := walkLinksUptoRow.holds Tryz.pinned (OpenSpec.upto walkLinksSpec)

/-- 'handpostlaw.WalkStraight', WHERE WHAT IT READS IS OF BULK AT MOST 1048576: true; the input reads as it did. -/
def walkStraightUptoRow : OpenClaim := { program := "yteedndapbfihaaagreat", sum := "41ee498bd66c082e8e804139966ca690c8c051106a17b32190a6c83621062eb1", func := "handpost/handpostlaw.WalkStraight", spec := "walkStraight", inPlace := ["slices.overlaps[handpost/api.Route]"], unfollowed := true, recurses := true, apart := false, narrowed := true }
def WalkStraightUptoSaid : Prop := walkStraightUptoRow.holds Tryz.pinned (OpenSpec.upto walkStraightSpec)

/-- 'handpostlaw.WalkHome', WHERE WHAT IT READS IS OF BULK AT MOST 1048576: true; the input reads as it did. -/
def walkHomeUptoRow : OpenClaim := { program := "yteedndapbfihaaagreat", sum := "41ee498bd66c082e8e804139966ca690c8c051106a17b32190a6c83621062eb1", func := "handpost/handpostlaw.WalkHome", spec := "walkHome", inPlace := ["slices.overlaps[handpost/api.Route]"], unfollowed := true, recurses := true, apart := false, narrowed := true }
def WalkHomeUptoSaid : Prop := walkHomeUptoRow.holds Tryz.pinned (OpenSpec.upto walkHomeSpec)

end Rows
end Go.Proofs.YteedndapbfihaaaGreat
