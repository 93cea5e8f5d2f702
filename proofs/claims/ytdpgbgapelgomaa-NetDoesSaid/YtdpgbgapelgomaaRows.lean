/-
  No cell of these rows narrows 'for every input' (looked for: loops, veiled, ifaces, maps, wideKeys, modest, calm, conditions, laid).
  DERIVED. THE GIVEN ROWS OF THIS SEAT. 13 by the template 'for every input the law returns true; each argument reads behind the call as it read before'; 0 by the template 'total and deterministic' (their statements: YtdpgbgapelgomaaTotals.lean).
  GIVEN WITH THE SEED: the statements are not yours to turn. If you find one false, say at which input.
  Laid BY PROGRAM, IN A SANDBOX (cutbox-rows.mjs): the forced cells as the released guide's own fill.sh prints them over the translation 4467f9d0c5b722f5… (all of the seat's roots in one cut). By AI agents, Wed Nov 11 2026. No macro, syntax, notation, axiom, sorry.
-/
import Derived.Test.YtdpgbgapelgomaaChecked
import GoSem.Claim
import GoSem.ClaimJoined
import GoSem.ClaimMapViews
import Derived.JoinedTies
import Derived.KernelRfl
namespace Go.Proofs.Ytdpgbgapelgomaa
/- THE CELL 'sum', in the pinned program and in every row, IS THE sha256 OF THE DUMP (.gsa) THAT YtdpgbgapelgomaaProg.lean LOADS. Nothing in Lean hashes anything: it is a label: what it is worth is what the hold of that sum in a sandbox is worth. -/
noncomputable def Try.pinned : Pinned := { name := "ytdpgbgapelgomaa", sum := "4467f9d0c5b722f5ae3a4516333be27308d238efe88e36fdd7e5b8921c9dc1ac", checked := Try.checked }
namespace Rows
def none {H : Type} : Left H := { results := [], args := [] }

/-- 'handpostlaw.LinksDoes': WHATEVER THE INPUT: true; the input reads as it did. -/
def linksDoesSpec : ChangeSpec := { name := "linksDoes", fn := fun _ => fun
  | [d1, d2, d3] => { results := [.lit (.bool true)], args := [d1, d2, d3] }
  | _ => none }
def linksDoesRow : OpenClaim := { program := "ytdpgbgapelgomaa", sum := "4467f9d0c5b722f5ae3a4516333be27308d238efe88e36fdd7e5b8921c9dc1ac", func := "handpost/handpostlaw.LinksDoes", spec := "linksDoes", apart := false }
def LinksDoesSaid : Prop := linksDoesRow.holds Try.pinned (OpenSpec.ofChange linksDoesSpec)

/-- ITS FALSE NEIGHBOUR: 'it returns false'. Refute it at one input. -/
def linksDoesWrong : ChangeSpec := { name := "linksDoes", fn := fun _ => fun
  | [d1, d2, d3] => { results := [.lit (.bool false)], args := [d1, d2, d3] }
  | _ => none }
def LinksDoesWrongFalsely : Prop := linksDoesRow.holds Try.pinned (OpenSpec.ofChange linksDoesWrong)

/-- 'handpostlaw.LinksFar': WHATEVER THE INPUT: true; the input reads as it did. -/
def linksFarSpec : ChangeSpec := { name := "linksFar", fn := fun _ => fun
  | [d1, d2, d3, d4] => { results := [.lit (.bool true)], args := [d1, d2, d3, d4] }
  | _ => none }
def linksFarRow : OpenClaim := { program := "ytdpgbgapelgomaa", sum := "4467f9d0c5b722f5ae3a4516333be27308d238efe88e36fdd7e5b8921c9dc1ac", func := "handpost/handpostlaw.LinksFar", spec := "linksFar", apart := false }
def LinksFarSaid : Prop := linksFarRow.holds Try.pinned (OpenSpec.ofChange linksFarSpec)

/-- ITS FALSE NEIGHBOUR: 'it returns false'. Refute it at one input. -/
def linksFarWrong : ChangeSpec := { name := "linksFar", fn := fun _ => fun
  | [d1, d2, d3, d4] => { results := [.lit (.bool false)], args := [d1, d2, d3, d4] }
  | _ => none }
def LinksFarWrongFalsely : Prop := linksFarRow.holds Try.pinned (OpenSpec.ofChange linksFarWrong)

/-- 'handpostlaw.LinksMore': WHATEVER THE INPUT: true; the input reads as it did. -/
def linksMoreSpec : ChangeSpec := { name := "linksMore", fn := fun _ => fun
  | [d1, d2, d3, d4] => { results := [.lit (.bool true)], args := [d1, d2, d3, d4] }
  | _ => none }
def linksMoreRow : OpenClaim := { program := "ytdpgbgapelgomaa", sum := "4467f9d0c5b722f5ae3a4516333be27308d238efe88e36fdd7e5b8921c9dc1ac", func := "handpost/handpostlaw.LinksMore", spec := "linksMore", apart := false }
def LinksMoreSaid : Prop := linksMoreRow.holds Try.pinned (OpenSpec.ofChange linksMoreSpec)

/-- ITS FALSE NEIGHBOUR: 'it returns false'. Refute it at one input. -/
def linksMoreWrong : ChangeSpec := { name := "linksMore", fn := fun _ => fun
  | [d1, d2, d3, d4] => { results := [.lit (.bool false)], args := [d1, d2, d3, d4] }
  | _ => none }
def LinksMoreWrongFalsely : Prop := linksMoreRow.holds Try.pinned (OpenSpec.ofChange linksMoreWrong)

/-- 'handpostlaw.NodeLearns': WHATEVER THE INPUT: true; the input reads as it did. -/
def nodeLearnsSpec : ChangeSpec := { name := "nodeLearns", fn := fun _ => fun
  | [d1, d2, d3] => { results := [.lit (.bool true)], args := [d1, d2, d3] }
  | _ => none }
def nodeLearnsRow : OpenClaim := { program := "ytdpgbgapelgomaa", sum := "4467f9d0c5b722f5ae3a4516333be27308d238efe88e36fdd7e5b8921c9dc1ac", func := "handpost/handpostlaw.NodeLearns", spec := "nodeLearns", apart := false }
def NodeLearnsSaid : Prop := nodeLearnsRow.holds Try.pinned (OpenSpec.ofChange nodeLearnsSpec)

/-- ITS FALSE NEIGHBOUR: 'it returns false'. Refute it at one input. -/
def nodeLearnsWrong : ChangeSpec := { name := "nodeLearns", fn := fun _ => fun
  | [d1, d2, d3] => { results := [.lit (.bool false)], args := [d1, d2, d3] }
  | _ => none }
def NodeLearnsWrongFalsely : Prop := nodeLearnsRow.holds Try.pinned (OpenSpec.ofChange nodeLearnsWrong)

/-- 'handpostlaw.NodeDoes': WHATEVER THE INPUT: true; the input reads as it did. -/
def nodeDoesSpec : ChangeSpec := { name := "nodeDoes", fn := fun _ => fun
  | [d1, d2, d3] => { results := [.lit (.bool true)], args := [d1, d2, d3] }
  | _ => none }
def nodeDoesRow : OpenClaim := { program := "ytdpgbgapelgomaa", sum := "4467f9d0c5b722f5ae3a4516333be27308d238efe88e36fdd7e5b8921c9dc1ac", func := "handpost/handpostlaw.NodeDoes", spec := "nodeDoes", apart := false }
def NodeDoesSaid : Prop := nodeDoesRow.holds Try.pinned (OpenSpec.ofChange nodeDoesSpec)

/-- ITS FALSE NEIGHBOUR: 'it returns false'. Refute it at one input. -/
def nodeDoesWrong : ChangeSpec := { name := "nodeDoes", fn := fun _ => fun
  | [d1, d2, d3] => { results := [.lit (.bool false)], args := [d1, d2, d3] }
  | _ => none }
def NodeDoesWrongFalsely : Prop := nodeDoesRow.holds Try.pinned (OpenSpec.ofChange nodeDoesWrong)

/-- 'handpostlaw.NodeBest': WHATEVER THE INPUT: true; the input reads as it did. -/
def nodeBestSpec : ChangeSpec := { name := "nodeBest", fn := fun _ => fun
  | [d1, d2] => { results := [.lit (.bool true)], args := [d1, d2] }
  | _ => none }
def nodeBestRow : OpenClaim := { program := "ytdpgbgapelgomaa", sum := "4467f9d0c5b722f5ae3a4516333be27308d238efe88e36fdd7e5b8921c9dc1ac", func := "handpost/handpostlaw.NodeBest", spec := "nodeBest", apart := false }
def NodeBestSaid : Prop := nodeBestRow.holds Try.pinned (OpenSpec.ofChange nodeBestSpec)

/-- ITS FALSE NEIGHBOUR: 'it returns false'. Refute it at one input. -/
def nodeBestWrong : ChangeSpec := { name := "nodeBest", fn := fun _ => fun
  | [d1, d2] => { results := [.lit (.bool false)], args := [d1, d2] }
  | _ => none }
def NodeBestWrongFalsely : Prop := nodeBestRow.holds Try.pinned (OpenSpec.ofChange nodeBestWrong)

/-- 'handpostlaw.NodeStale': WHATEVER THE INPUT: true; the input reads as it did. -/
def nodeStaleSpec : ChangeSpec := { name := "nodeStale", fn := fun _ => fun
  | [d1, d2, d3] => { results := [.lit (.bool true)], args := [d1, d2, d3] }
  | _ => none }
def nodeStaleRow : OpenClaim := { program := "ytdpgbgapelgomaa", sum := "4467f9d0c5b722f5ae3a4516333be27308d238efe88e36fdd7e5b8921c9dc1ac", func := "handpost/handpostlaw.NodeStale", spec := "nodeStale", apart := false }
def NodeStaleSaid : Prop := nodeStaleRow.holds Try.pinned (OpenSpec.ofChange nodeStaleSpec)

/-- ITS FALSE NEIGHBOUR: 'it returns false'. Refute it at one input. -/
def nodeStaleWrong : ChangeSpec := { name := "nodeStale", fn := fun _ => fun
  | [d1, d2, d3] => { results := [.lit (.bool false)], args := [d1, d2, d3] }
  | _ => none }
def NodeStaleWrongFalsely : Prop := nodeStaleRow.holds Try.pinned (OpenSpec.ofChange nodeStaleWrong)

/-- 'handpostlaw.NetLost': WHATEVER THE INPUT: true; the input reads as it did. -/
def netLostSpec : ChangeSpec := { name := "netLost", fn := fun _ => fun
  | [d1, d2, d3] => { results := [.lit (.bool true)], args := [d1, d2, d3] }
  | _ => none }
def netLostRow : OpenClaim := { program := "ytdpgbgapelgomaa", sum := "4467f9d0c5b722f5ae3a4516333be27308d238efe88e36fdd7e5b8921c9dc1ac", func := "handpost/handpostlaw.NetLost", spec := "netLost", apart := false }
def NetLostSaid : Prop := netLostRow.holds Try.pinned (OpenSpec.ofChange netLostSpec)

/-- ITS FALSE NEIGHBOUR: 'it returns false'. Refute it at one input. -/
def netLostWrong : ChangeSpec := { name := "netLost", fn := fun _ => fun
  | [d1, d2, d3] => { results := [.lit (.bool false)], args := [d1, d2, d3] }
  | _ => none }
def NetLostWrongFalsely : Prop := netLostRow.holds Try.pinned (OpenSpec.ofChange netLostWrong)

/-- 'handpostlaw.NetStraight': WHATEVER THE INPUT: true; the input reads as it did. -/
def netStraightSpec : ChangeSpec := { name := "netStraight", fn := fun _ => fun
  | [d] => { results := [.lit (.bool true)], args := [d] }
  | _ => none }
def netStraightRow : OpenClaim := { program := "ytdpgbgapelgomaa", sum := "4467f9d0c5b722f5ae3a4516333be27308d238efe88e36fdd7e5b8921c9dc1ac", func := "handpost/handpostlaw.NetStraight", spec := "netStraight", apart := false }
def NetStraightSaid : Prop := netStraightRow.holds Try.pinned (OpenSpec.ofChange netStraightSpec)

/-- ITS FALSE NEIGHBOUR: 'it returns false'. Refute it at one input. -/
def netStraightWrong : ChangeSpec := { name := "netStraight", fn := fun _ => fun
  | [d] => { results := [.lit (.bool false)], args := [d] }
  | _ => none }
def NetStraightWrongFalsely : Prop := netStraightRow.holds Try.pinned (OpenSpec.ofChange netStraightWrong)

/-- 'handpostlaw.NetAges': WHATEVER THE INPUT: true; the input reads as it did. -/
def netAgesSpec : ChangeSpec := { name := "netAges", fn := fun _ => fun
  | [d] => { results := [.lit (.bool true)], args := [d] }
  | _ => none }
def netAgesRow : OpenClaim := { program := "ytdpgbgapelgomaa", sum := "4467f9d0c5b722f5ae3a4516333be27308d238efe88e36fdd7e5b8921c9dc1ac", func := "handpost/handpostlaw.NetAges", spec := "netAges", apart := false }
def NetAgesSaid : Prop := netAgesRow.holds Try.pinned (OpenSpec.ofChange netAgesSpec)

/-- ITS FALSE NEIGHBOUR: 'it returns false'. Refute it at one input. -/
def netAgesWrong : ChangeSpec := { name := "netAges", fn := fun _ => fun
  | [d] => { results := [.lit (.bool false)], args := [d] }
  | _ => none }
def NetAgesWrongFalsely : Prop := netAgesRow.holds Try.pinned (OpenSpec.ofChange netAgesWrong)

/-- 'handpostlaw.NetDoes': WHATEVER THE INPUT: true; the input reads as it did. -/
def netDoesSpec : ChangeSpec := { name := "netDoes", fn := fun _ => fun
  | [d1, d2, d3, d4] => { results := [.lit (.bool true)], args := [d1, d2, d3, d4] }
  | _ => none }
def netDoesRow : OpenClaim := { program := "ytdpgbgapelgomaa", sum := "4467f9d0c5b722f5ae3a4516333be27308d238efe88e36fdd7e5b8921c9dc1ac", func := "handpost/handpostlaw.NetDoes", spec := "netDoes", apart := false }
def NetDoesSaid : Prop := netDoesRow.holds Try.pinned (OpenSpec.ofChange netDoesSpec)

/-- ITS FALSE NEIGHBOUR: 'it returns false'. Refute it at one input. -/
def netDoesWrong : ChangeSpec := { name := "netDoes", fn := fun _ => fun
  | [d1, d2, d3, d4] => { results := [.lit (.bool false)], args := [d1, d2, d3, d4] }
  | _ => none }
def NetDoesWrongFalsely : Prop := netDoesRow.holds Try.pinned (OpenSpec.ofChange netDoesWrong)

/-- 'handpostlaw.NetSettles': WHATEVER THE INPUT: true; the input reads as it did. -/
def netSettlesSpec : ChangeSpec := { name := "netSettles", fn := fun _ => fun
  | [d1, d2] => { results := [.lit (.bool true)], args := [d1, d2] }
  | _ => none }
def netSettlesRow : OpenClaim := { program := "ytdpgbgapelgomaa", sum := "4467f9d0c5b722f5ae3a4516333be27308d238efe88e36fdd7e5b8921c9dc1ac", func := "handpost/handpostlaw.NetSettles", spec := "netSettles", apart := false }
def NetSettlesSaid : Prop := netSettlesRow.holds Try.pinned (OpenSpec.ofChange netSettlesSpec)

/-- ITS FALSE NEIGHBOUR: 'it returns false'. Refute it at one input. -/
def netSettlesWrong : ChangeSpec := { name := "netSettles", fn := fun _ => fun
  | [d1, d2] => { results := [.lit (.bool false)], args := [d1, d2] }
  | _ => none }
def NetSettlesWrongFalsely : Prop := netSettlesRow.holds Try.pinned (OpenSpec.ofChange netSettlesWrong)

/-- 'handpostlaw.NetAgain': WHATEVER THE INPUT: true; the input reads as it did. -/
def netAgainSpec : ChangeSpec := { name := "netAgain", fn := fun _ => fun
  | [d1, d2] => { results := [.lit (.bool true)], args := [d1, d2] }
  | _ => none }
def netAgainRow : OpenClaim := { program := "ytdpgbgapelgomaa", sum := "4467f9d0c5b722f5ae3a4516333be27308d238efe88e36fdd7e5b8921c9dc1ac", func := "handpost/handpostlaw.NetAgain", spec := "netAgain", apart := false }
def NetAgainSaid : Prop := netAgainRow.holds Try.pinned (OpenSpec.ofChange netAgainSpec)

/-- ITS FALSE NEIGHBOUR: 'it returns false'. Refute it at one input. -/
def netAgainWrong : ChangeSpec := { name := "netAgain", fn := fun _ => fun
  | [d1, d2] => { results := [.lit (.bool false)], args := [d1, d2] }
  | _ => none }
def NetAgainWrongFalsely : Prop := netAgainRow.holds Try.pinned (OpenSpec.ofChange netAgainWrong)

/- THE SECOND FORM. 'bulk': how many values and letters a reading holds, each counted each time it is reached (what is shared counts as often as it is met; a slice's spare places count too). A statement '..UptoSaid' is the law's where the arguments, and the package variables that the reading takes, are together of bulk at most 1048576: NARROWER than '..Said'. Prove '..Said' where nothing that the law and all that it calls make is longer than what came in: it says more and counts as full. Else prove '..UptoSaid'. A law counts once. -/
mutual
def uptoBulk {H : Type} : DataW H → Nat
  | .lit (.string bytes) => bytes.length + 1
  | .lit _ => 1
  | .nil => 1
  | .ptr d => uptoBulk d + 1
  | .slice elems spare => uptoBulkAll elems + uptoBulkAll spare + 1
  | .agg parts => uptoBulkAll parts + 1
  | .iface _ d => uptoBulk d + 1
  | .map entries => uptoBulkEntries entries + 1
  | .held _ => 1
def uptoBulkAll {H : Type} : List (DataW H) → Nat
  | [] => 0
  | d :: r => uptoBulk d + uptoBulkAll r
def uptoBulkEntries {H : Type} : List (Lit × DataW H) → Nat
  | [] => 0
  | x :: r => uptoBulkEntry x + uptoBulkEntries r
def uptoBulkEntry {H : Type} : Lit × DataW H → Nat
  | (.string bytes, d) => bytes.length + uptoBulk d + 1
  | (_, d) => uptoBulk d + 1
 end
def uptoSmall : (H : Type) → List (DataW H) → Bool := fun _ ds => decide (uptoBulkAll ds ≤ 1048576)
def OpenSpec.upto (s : _root_.Go.ChangeSpec) : _root_.Go.OpenSpec := { _root_.Go.OpenSpec.ofChange s with cond := some uptoSmall }

/-- 'handpostlaw.LinksDoes', WHERE WHAT IT READS IS OF BULK AT MOST 1048576: true; the input reads as it did. -/
def linksDoesUptoRow : OpenClaim := { program := "ytdpgbgapelgomaa", sum := "4467f9d0c5b722f5ae3a4516333be27308d238efe88e36fdd7e5b8921c9dc1ac", func := "handpost/handpostlaw.LinksDoes", spec := "linksDoes", apart := false, narrowed := true }
def LinksDoesUptoSaid : Prop := linksDoesUptoRow.holds Try.pinned (OpenSpec.upto linksDoesSpec)

/-- 'handpostlaw.LinksFar', WHERE WHAT IT READS IS OF BULK AT MOST 1048576: true; the input reads as it did. -/
def linksFarUptoRow : OpenClaim := { program := "ytdpgbgapelgomaa", sum := "4467f9d0c5b722f5ae3a4516333be27308d238efe88e36fdd7e5b8921c9dc1ac", func := "handpost/handpostlaw.LinksFar", spec := "linksFar", apart := false, narrowed := true }
def LinksFarUptoSaid : Prop := linksFarUptoRow.holds Try.pinned (OpenSpec.upto linksFarSpec)

/-- 'handpostlaw.LinksMore', WHERE WHAT IT READS IS OF BULK AT MOST 1048576: true; the input reads as it did. -/
def linksMoreUptoRow : OpenClaim := { program := "ytdpgbgapelgomaa", sum := "4467f9d0c5b722f5ae3a4516333be27308d238efe88e36fdd7e5b8921c9dc1ac", func := "handpost/handpostlaw.LinksMore", spec := "linksMore", apart := false, narrowed := true }
def LinksMoreUptoSaid : Prop := linksMoreUptoRow.holds Try.pinned (OpenSpec.upto linksMoreSpec)

/-- 'handpostlaw.NodeLearns', WHERE WHAT IT READS IS OF BULK AT MOST 1048576: true; the input reads as it did. -/
def nodeLearnsUptoRow : OpenClaim := { program := "ytdpgbgapelgomaa", sum := "4467f9d0c5b722f5ae3a4516333be27308d238efe88e36fdd7e5b8921c9dc1ac", func := "handpost/handpostlaw.NodeLearns", spec := "nodeLearns", apart := false, narrowed := true }
def NodeLearnsUptoSaid : Prop := nodeLearnsUptoRow.holds Try.pinned (OpenSpec.upto nodeLearnsSpec)

/-- 'handpostlaw.NodeDoes', WHERE WHAT IT READS IS OF BULK AT MOST 1048576: true; the input reads as it did. -/
def nodeDoesUptoRow : OpenClaim := { program := "ytdpgbgapelgomaa", sum := "4467f9d0c5b722f5ae3a4516333be27308d238efe88e36fdd7e5b8921c9dc1ac", func := "handpost/handpostlaw.NodeDoes", spec := "nodeDoes", apart := false, narrowed := true }
def NodeDoesUptoSaid : Prop := nodeDoesUptoRow.holds Try.pinned (OpenSpec.upto nodeDoesSpec)

/-- 'handpostlaw.NodeBest', WHERE WHAT IT READS IS OF BULK AT MOST 1048576: true; the input reads as it did. -/
def nodeBestUptoRow : OpenClaim := { program := "ytdpgbgapelgomaa", sum := "4467f9d0c5b722f5ae3a4516333be27308d238efe88e36fdd7e5b8921c9dc1ac", func := "handpost/handpostlaw.NodeBest", spec := "nodeBest", apart := false, narrowed := true }
def NodeBestUptoSaid : Prop := nodeBestUptoRow.holds Try.pinned (OpenSpec.upto nodeBestSpec)

/-- 'handpostlaw.NodeStale', WHERE WHAT IT READS IS OF BULK AT MOST 1048576: true; the input reads as it did. -/
def nodeStaleUptoRow : OpenClaim := { program := "ytdpgbgapelgomaa", sum := "4467f9d0c5b722f5ae3a4516333be27308d238efe88e36fdd7e5b8921c9dc1ac", func := "handpost/handpostlaw.NodeStale", spec := "nodeStale", apart := false, narrowed := true }
def NodeStaleUptoSaid : Prop := nodeStaleUptoRow.holds Try.pinned (OpenSpec.upto nodeStaleSpec)

/-- 'handpostlaw.NetLost', WHERE WHAT IT READS IS OF BULK AT MOST 1048576: true; the input reads as it did. -/
def netLostUptoRow : OpenClaim := { program := "ytdpgbgapelgomaa", sum := "4467f9d0c5b722f5ae3a4516333be27308d238efe88e36fdd7e5b8921c9dc1ac", func := "handpost/handpostlaw.NetLost", spec := "netLost", apart := false, narrowed := true }
def NetLostUptoSaid : Prop := netLostUptoRow.holds Try.pinned (OpenSpec.upto netLostSpec)

/-- 'handpostlaw.NetStraight', WHERE WHAT IT READS IS OF BULK AT MOST 1048576: true; the input reads as it did. -/
def netStraightUptoRow : OpenClaim := { program := "ytdpgbgapelgomaa", sum := "4467f9d0c5b722f5ae3a4516333be27308d238efe88e36fdd7e5b8921c9dc1ac", func := "handpost/handpostlaw.NetStraight", spec := "netStraight", apart := false, narrowed := true }
def NetStraightUptoSaid : Prop := netStraightUptoRow.holds Try.pinned (OpenSpec.upto netStraightSpec)

/-- 'handpostlaw.NetAges', WHERE WHAT IT READS IS OF BULK AT MOST 1048576: true; the input reads as it did. -/
def netAgesUptoRow : OpenClaim := { program := "ytdpgbgapelgomaa", sum := "4467f9d0c5b722f5ae3a4516333be27308d238efe88e36fdd7e5b8921c9dc1ac", func := "handpost/handpostlaw.NetAges", spec := "netAges", apart := false, narrowed := true }
def NetAgesUptoSaid : Prop := netAgesUptoRow.holds Try.pinned (OpenSpec.upto netAgesSpec)

/-- 'handpostlaw.NetDoes', WHERE WHAT IT READS IS OF BULK AT MOST 1048576: true; the input reads as it did. -/
def netDoesUptoRow : OpenClaim := { program := "ytdpgbgapelgomaa", sum := "4467f9d0c5b722f5ae3a4516333be27308d238efe88e36fdd7e5b8921c9dc1ac", func := "handpost/handpostlaw.NetDoes", spec := "netDoes", apart := false, narrowed := true }
def NetDoesUptoSaid : Prop := netDoesUptoRow.holds Try.pinned (OpenSpec.upto netDoesSpec)

/-- 'handpostlaw.NetSettles', WHERE WHAT IT READS IS OF BULK AT MOST 1048576: true; the input reads as it did. -/
def netSettlesUptoRow : OpenClaim := { program := "ytdpgbgapelgomaa", sum := "4467f9d0c5b722f5ae3a4516333be27308d238efe88e36fdd7e5b8921c9dc1ac", func := "handpost/handpostlaw.NetSettles", spec := "netSettles", apart := false, narrowed := true }
def NetSettlesUptoSaid : Prop := netSettlesUptoRow.holds Try.pinned (OpenSpec.upto netSettlesSpec)

/-- 'handpostlaw.NetAgain', WHERE WHAT IT READS IS OF BULK AT MOST 1048576: true; the input reads as it did. -/
def netAgainUptoRow : OpenClaim := { program := "ytdpgbgapelgomaa", sum := "4467f9d0c5b722f5ae3a4516333be27308d238efe88e36fdd7e5b8921c9dc1ac", func := "handpost/handpostlaw.NetAgain", spec := "netAgain", apart := false, narrowed := true }
def NetAgainUptoSaid : Prop := netAgainUptoRow.holds Try.pinned (OpenSpec.upto netAgainSpec)

end Rows
end Go.Proofs.Ytdpgbgapelgomaa
