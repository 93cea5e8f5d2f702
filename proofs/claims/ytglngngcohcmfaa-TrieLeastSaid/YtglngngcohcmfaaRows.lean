/-
  No cell of these rows narrows 'for every input' (looked for: loops, veiled, ifaces, maps, wideKeys, modest, calm, conditions, laid).
  DERIVED. THE GIVEN ROWS OF THIS SEAT. 7 by the template 'for every input the law returns true; each argument reads behind the call as it read before'; 0 by the template 'total and deterministic' (their statements: YtglngngcohcmfaaTotals.lean).
  GIVEN WITH THE SEED: the statements are not yours to turn. If you find one false, say at which input.
  Laid BY PROGRAM, IN A SANDBOX (cutbox-rows.mjs): the forced cells as the released guide's own fill.sh prints them over the translation 38053986b530279f… (all of the seat's roots in one cut). By AI agents, Wed Nov 11 2026. No macro, syntax, notation, axiom, sorry.
-/
import Derived.Test.YtglngngcohcmfaaChecked
import GoSem.Claim
import GoSem.ClaimJoined
import GoSem.ClaimMapViews
import Derived.JoinedTies
import Derived.KernelRfl
namespace Go.Proofs.Ytglngngcohcmfaa
/- THE CELL 'sum', in the pinned program and in every row, IS THE sha256 OF THE DUMP (.gsa) THAT YtglngngcohcmfaaProg.lean LOADS. Nothing in Lean hashes anything: it is a label: what it is worth is what the hold of that sum in a sandbox is worth. -/
noncomputable def Try.pinned : Pinned := { name := "ytglngngcohcmfaa", sum := "38053986b530279f05ce41080e5bf1368e598b13d1464d2c7fd7a958a5a6e7f0", checked := Try.checked }
namespace Rows
def none {H : Type} : Left H := { results := [], args := [] }

/-- 'handpostlaw.TableDoes': WHATEVER THE INPUT: true; the input reads as it did. -/
def tableDoesSpec : ChangeSpec := { name := "tableDoes", fn := fun _ => fun
  | [d1, d2, d3, d4] => { results := [.lit (.bool true)], args := [d1, d2, d3, d4] }
  | _ => none }
def tableDoesRow : OpenClaim := { program := "ytglngngcohcmfaa", sum := "38053986b530279f05ce41080e5bf1368e598b13d1464d2c7fd7a958a5a6e7f0", func := "handpost/handpostlaw.TableDoes", spec := "tableDoes", inPlace := ["slices.overlaps[handpost/api.Route]"], unfollowed := true, recurses := true, apart := false }
def TableDoesSaid : Prop := tableDoesRow.holds Try.pinned (OpenSpec.ofChange tableDoesSpec)

/-- ITS FALSE NEIGHBOUR: 'it returns false'. Refute it at one input. -/
def tableDoesWrong : ChangeSpec := { name := "tableDoes", fn := fun _ => fun
  | [d1, d2, d3, d4] => { results := [.lit (.bool false)], args := [d1, d2, d3, d4] }
  | _ => none }
def TableDoesWrongFalsely : Prop := tableDoesRow.holds Try.pinned (OpenSpec.ofChange tableDoesWrong)

/-- 'handpostlaw.TableLongest': WHATEVER THE INPUT: true; the input reads as it did. -/
def tableLongestSpec : ChangeSpec := { name := "tableLongest", fn := fun _ => fun
  | [d1, d2] => { results := [.lit (.bool true)], args := [d1, d2] }
  | _ => none }
def tableLongestRow : OpenClaim := { program := "ytglngngcohcmfaa", sum := "38053986b530279f05ce41080e5bf1368e598b13d1464d2c7fd7a958a5a6e7f0", func := "handpost/handpostlaw.TableLongest", spec := "tableLongest", inPlace := ["slices.overlaps[handpost/api.Route]"], unfollowed := true, recurses := true, apart := false }
def TableLongestSaid : Prop := tableLongestRow.holds Try.pinned (OpenSpec.ofChange tableLongestSpec)

/-- ITS FALSE NEIGHBOUR: 'it returns false'. Refute it at one input. -/
def tableLongestWrong : ChangeSpec := { name := "tableLongest", fn := fun _ => fun
  | [d1, d2] => { results := [.lit (.bool false)], args := [d1, d2] }
  | _ => none }
def TableLongestWrongFalsely : Prop := tableLongestRow.holds Try.pinned (OpenSpec.ofChange tableLongestWrong)

/-- 'handpostlaw.TableBack': WHATEVER THE INPUT: true; the input reads as it did. -/
def tableBackSpec : ChangeSpec := { name := "tableBack", fn := fun _ => fun
  | [d1, d2, d3] => { results := [.lit (.bool true)], args := [d1, d2, d3] }
  | _ => none }
def tableBackRow : OpenClaim := { program := "ytglngngcohcmfaa", sum := "38053986b530279f05ce41080e5bf1368e598b13d1464d2c7fd7a958a5a6e7f0", func := "handpost/handpostlaw.TableBack", spec := "tableBack", inPlace := ["slices.overlaps[handpost/api.Route]"], unfollowed := true, recurses := true, apart := false }
def TableBackSaid : Prop := tableBackRow.holds Try.pinned (OpenSpec.ofChange tableBackSpec)

/-- ITS FALSE NEIGHBOUR: 'it returns false'. Refute it at one input. -/
def tableBackWrong : ChangeSpec := { name := "tableBack", fn := fun _ => fun
  | [d1, d2, d3] => { results := [.lit (.bool false)], args := [d1, d2, d3] }
  | _ => none }
def TableBackWrongFalsely : Prop := tableBackRow.holds Try.pinned (OpenSpec.ofChange tableBackWrong)

/-- 'handpostlaw.TableApart': WHATEVER THE INPUT: true; the input reads as it did. -/
def tableApartSpec : ChangeSpec := { name := "tableApart", fn := fun _ => fun
  | [d1, d2, d3, d4] => { results := [.lit (.bool true)], args := [d1, d2, d3, d4] }
  | _ => none }
def tableApartRow : OpenClaim := { program := "ytglngngcohcmfaa", sum := "38053986b530279f05ce41080e5bf1368e598b13d1464d2c7fd7a958a5a6e7f0", func := "handpost/handpostlaw.TableApart", spec := "tableApart", inPlace := ["slices.overlaps[handpost/api.Route]"], unfollowed := true, recurses := true, apart := false }
def TableApartSaid : Prop := tableApartRow.holds Try.pinned (OpenSpec.ofChange tableApartSpec)

/-- ITS FALSE NEIGHBOUR: 'it returns false'. Refute it at one input. -/
def tableApartWrong : ChangeSpec := { name := "tableApart", fn := fun _ => fun
  | [d1, d2, d3, d4] => { results := [.lit (.bool false)], args := [d1, d2, d3, d4] }
  | _ => none }
def TableApartWrongFalsely : Prop := tableApartRow.holds Try.pinned (OpenSpec.ofChange tableApartWrong)

/-- 'handpostlaw.TrieDoes': WHATEVER THE INPUT: true; the input reads as it did. -/
def trieDoesSpec : ChangeSpec := { name := "trieDoes", fn := fun _ => fun
  | [d1, d2, d3] => { results := [.lit (.bool true)], args := [d1, d2, d3] }
  | _ => none }
def trieDoesRow : OpenClaim := { program := "ytglngngcohcmfaa", sum := "38053986b530279f05ce41080e5bf1368e598b13d1464d2c7fd7a958a5a6e7f0", func := "handpost/handpostlaw.TrieDoes", spec := "trieDoes", inPlace := ["slices.overlaps[handpost/api.Route]"], unfollowed := true, recurses := true, apart := false }
def TrieDoesSaid : Prop := trieDoesRow.holds Try.pinned (OpenSpec.ofChange trieDoesSpec)

/-- ITS FALSE NEIGHBOUR: 'it returns false'. Refute it at one input. -/
def trieDoesWrong : ChangeSpec := { name := "trieDoes", fn := fun _ => fun
  | [d1, d2, d3] => { results := [.lit (.bool false)], args := [d1, d2, d3] }
  | _ => none }
def TrieDoesWrongFalsely : Prop := trieDoesRow.holds Try.pinned (OpenSpec.ofChange trieDoesWrong)

/-- 'handpostlaw.TrieLeast': WHATEVER THE INPUT: true; the input reads as it did. -/
def trieLeastSpec : ChangeSpec := { name := "trieLeast", fn := fun _ => fun
  | [d1, d2, d3] => { results := [.lit (.bool true)], args := [d1, d2, d3] }
  | _ => none }
def trieLeastRow : OpenClaim := { program := "ytglngngcohcmfaa", sum := "38053986b530279f05ce41080e5bf1368e598b13d1464d2c7fd7a958a5a6e7f0", func := "handpost/handpostlaw.TrieLeast", spec := "trieLeast", inPlace := ["slices.overlaps[handpost/api.Route]"], unfollowed := true, recurses := true, apart := false }
def TrieLeastSaid : Prop := trieLeastRow.holds Try.pinned (OpenSpec.ofChange trieLeastSpec)

/-- ITS FALSE NEIGHBOUR: 'it returns false'. Refute it at one input. -/
def trieLeastWrong : ChangeSpec := { name := "trieLeast", fn := fun _ => fun
  | [d1, d2, d3] => { results := [.lit (.bool false)], args := [d1, d2, d3] }
  | _ => none }
def TrieLeastWrongFalsely : Prop := trieLeastRow.holds Try.pinned (OpenSpec.ofChange trieLeastWrong)

/-- 'handpostlaw.TrieOrder': WHATEVER THE INPUT: true; the input reads as it did. -/
def trieOrderSpec : ChangeSpec := { name := "trieOrder", fn := fun _ => fun
  | [d1, d2] => { results := [.lit (.bool true)], args := [d1, d2] }
  | _ => none }
def trieOrderRow : OpenClaim := { program := "ytglngngcohcmfaa", sum := "38053986b530279f05ce41080e5bf1368e598b13d1464d2c7fd7a958a5a6e7f0", func := "handpost/handpostlaw.TrieOrder", spec := "trieOrder", inPlace := ["slices.overlaps[handpost/api.Route]"], unfollowed := true, recurses := true, apart := false }
def TrieOrderSaid : Prop := trieOrderRow.holds Try.pinned (OpenSpec.ofChange trieOrderSpec)

/-- ITS FALSE NEIGHBOUR: 'it returns false'. Refute it at one input. -/
def trieOrderWrong : ChangeSpec := { name := "trieOrder", fn := fun _ => fun
  | [d1, d2] => { results := [.lit (.bool false)], args := [d1, d2] }
  | _ => none }
def TrieOrderWrongFalsely : Prop := trieOrderRow.holds Try.pinned (OpenSpec.ofChange trieOrderWrong)

/- THE SECOND FORM. 'bulk': how many values and letters a reading holds, each counted each time it is reached (what is shared counts as often as it is met; a slice's spare places count too). A statement '..UptoSaid' is the law's where the arguments, and the package variables that the reading takes, are together of bulk at most 1048576: NARROWER than '..Said'. Prove '..Said' where nothing that the law and all that it calls make is longer than what came in: it says more and counts as full. Else prove '..UptoSaid'. A law counts once. -/
mutual
def uptoBulk {H : Type} : DataW H → Nat
  | .lit (.string bytes) => bytes.length + 1
  | .lit _ => 1
  | .nil => 1
  | .ptr d => uptoBulk d + 1
  | .slice elems spare => uptoBulkAll elems + uptoBulkAll spare + 1
  | .agg parts => uptoBulkAll parts + 1
  | .iface _ d => uptoBulk d + 1
  | .map entries => uptoBulkEntries entries + 1
  | .held _ => 1
def uptoBulkAll {H : Type} : List (DataW H) → Nat
  | [] => 0
  | d :: r => uptoBulk d + uptoBulkAll r
def uptoBulkEntries {H : Type} : List (Lit × DataW H) → Nat
  | [] => 0
  | x :: r => uptoBulkEntry x + uptoBulkEntries r
def uptoBulkEntry {H : Type} : Lit × DataW H → Nat
  | (.string bytes, d) => bytes.length + uptoBulk d + 1
  | (_, d) => uptoBulk d + 1
 end
def uptoSmall : (H : Type) → List (DataW H) → Bool := fun _ ds => decide (uptoBulkAll ds ≤ 1048576)
def OpenSpec.upto (s : _root_.Go.ChangeSpec) : _root_.Go.OpenSpec := { _root_.Go.OpenSpec.ofChange s with cond := some uptoSmall }

/-- 'handpostlaw.TableDoes', WHERE WHAT IT READS IS OF BULK AT MOST 1048576: true; the input reads as it did. -/
def tableDoesUptoRow : OpenClaim := { program := "ytglngngcohcmfaa", sum := "38053986b530279f05ce41080e5bf1368e598b13d1464d2c7fd7a958a5a6e7f0", func := "handpost/handpostlaw.TableDoes", spec := "tableDoes", inPlace := ["slices.overlaps[handpost/api.Route]"], unfollowed := true, recurses := true, apart := false, narrowed := true }
def TableDoesUptoSaid : Prop := tableDoesUptoRow.holds Try.pinned (OpenSpec.upto tableDoesSpec)

/-- 'handpostlaw.TableLongest', WHERE WHAT IT READS IS OF BULK AT MOST 1048576: true; the input reads as it did. -/
def tableLongestUptoRow : OpenClaim := { program := "ytglngngcohcmfaa", sum := "38053986b530279f05ce41080e5bf1368e598b13d1464d2c7fd7a958a5a6e7f0", func := "handpost/handpostlaw.TableLongest", spec := "tableLongest", inPlace := ["slices.overlaps[handpost/api.Route]"], unfollowed := true, recurses := true, apart := false, narrowed := true }
def TableLongestUptoSaid : Prop := tableLongestUptoRow.holds Try.pinned (OpenSpec.upto tableLongestSpec)

/-- 'handpostlaw.TableBack', WHERE WHAT IT READS IS OF BULK AT MOST 1048576: true; the input reads as it did. -/
def tableBackUptoRow : OpenClaim := { program := "ytglngngcohcmfaa", sum := "38053986b530279f05ce41080e5bf1368e598b13d1464d2c7fd7a958a5a6e7f0", func := "handpost/handpostlaw.TableBack", spec := "tableBack", inPlace := ["slices.overlaps[handpost/api.Route]"], unfollowed := true, recurses := true, apart := false, narrowed := true }
def TableBackUptoSaid : Prop := tableBackUptoRow.holds Try.pinned (OpenSpec.upto tableBackSpec)

/-- 'handpostlaw.TableApart', WHERE WHAT IT READS IS OF BULK AT MOST 1048576: true; the input reads as it did. -/
def tableApartUptoRow : OpenClaim := { program := "ytglngngcohcmfaa", sum := "38053986b530279f05ce41080e5bf1368e598b13d1464d2c7fd7a958a5a6e7f0", func := "handpost/handpostlaw.TableApart", spec := "tableApart", inPlace := ["slices.overlaps[handpost/api.Route]"], unfollowed := true, recurses := true, apart := false, narrowed := true }
def TableApartUptoSaid : Prop := tableApartUptoRow.holds Try.pinned (OpenSpec.upto tableApartSpec)

/-- 'handpostlaw.TrieDoes', WHERE WHAT IT READS IS OF BULK AT MOST 1048576: true; the input reads as it did. -/
def trieDoesUptoRow : OpenClaim := { program := "ytglngngcohcmfaa", sum := "38053986b530279f05ce41080e5bf1368e598b13d1464d2c7fd7a958a5a6e7f0", func := "handpost/handpostlaw.TrieDoes", spec := "trieDoes", inPlace := ["slices.overlaps[handpost/api.Route]"], unfollowed := true, recurses := true, apart := false, narrowed := true }
def TrieDoesUptoSaid : Prop := trieDoesUptoRow.holds Try.pinned (OpenSpec.upto trieDoesSpec)

/-- 'handpostlaw.TrieLeast', WHERE WHAT IT READS IS OF BULK AT MOST 1048576: true; the input reads as it did. -/
def trieLeastUptoRow : OpenClaim := { program := "ytglngngcohcmfaa", sum := "38053986b530279f05ce41080e5bf1368e598b13d1464d2c7fd7a958a5a6e7f0", func := "handpost/handpostlaw.TrieLeast", spec := "trieLeast", inPlace := ["slices.overlaps[handpost/api.Route]"], unfollowed := true, recurses := true, apart := false, narrowed := true }
def TrieLeastUptoSaid : Prop := trieLeastUptoRow.holds Try.pinned (OpenSpec.upto trieLeastSpec)

/-- 'handpostlaw.TrieOrder', WHERE WHAT IT READS IS OF BULK AT MOST 1048576: true; the input reads as it did. -/
def trieOrderUptoRow : OpenClaim := { program := "ytglngngcohcmfaa", sum := "38053986b530279f05ce41080e5bf1368e598b13d1464d2c7fd7a958a5a6e7f0", func := "handpost/handpostlaw.TrieOrder", spec := "trieOrder", inPlace := ["slices.overlaps[handpost/api.Route]"], unfollowed := true, recurses := true, apart := false, narrowed := true }
def TrieOrderUptoSaid : Prop := trieOrderUptoRow.holds Try.pinned (OpenSpec.upto trieOrderSpec)

end Rows
end Go.Proofs.Ytglngngcohcmfaa
