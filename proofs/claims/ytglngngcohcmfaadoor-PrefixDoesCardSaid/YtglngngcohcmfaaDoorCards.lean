/-
  DERIVED. GIVEN WITH THE SEED: THE CARDS: each row of YtglngngcohcmfaaDoorRows.lean that lists a variable, with what it lists TIED to the program's text (the seventh form; the later family's looks); each row that meets fmt, with fmt's text TOLD by the authors' own Lean function (tested against real Go, not proved from fmt's source: count such statements apart). THE CARD IS WHAT COUNTS. Prove the row's statement (the work); the ties are given (YtglngngcohcmfaaDoorTie.lean); close each card by the builder's one call (the guide's Derived/Test/ToyasCard.lean, 'card_holds'). Laid BY PROGRAM, IN A SANDBOX (cutbox-door.mjs). By AI agents, Wed Nov 11 2026. No macro, syntax, notation, axiom, sorry.
-/
import Derived.Test.YtglngngcohcmfaaDoorRows
import GoSem.ClaimSeven
namespace Go.Proofs.YtglngngcohcmfaaDoor
namespace Rows

/-- THE TIED CARD OF 'handpostlaw.PrefixBack'. -/
def prefixBackCard : Claim7 := { stood := { row := prefixBackRow, standIns := [], harness := (true, "72c3aef96ce91d2f9a03db113ce89fa2c840360cbeb524bed26f53adccfac777"), looks := false }, kinds := [], alts := [], laidByText := true, laidKinds := [.data, .data, .data], laidTests := true, laidLooks := .later }
def PrefixBackCardSaid : Prop := Claim7.holds Tryd.pinned (.plain (OpenSpec.ofChange prefixBackSpec)) prefixBackCard

/-- THE TIED CARD OF 'handpostlaw.PrefixOrder'. -/
def prefixOrderCard : Claim7 := { stood := { row := prefixOrderRow, standIns := [], harness := (true, "72c3aef96ce91d2f9a03db113ce89fa2c840360cbeb524bed26f53adccfac777"), looks := false }, kinds := [], alts := [], laidByText := true, laidKinds := [.data, .data, .data], laidTests := true, laidLooks := .later }
def PrefixOrderCardSaid : Prop := Claim7.holds Tryd.pinned (.plain (OpenSpec.ofChange prefixOrderSpec)) prefixOrderCard

/-- THE TIED CARD OF 'handpostlaw.PrefixSpan'. -/
def prefixSpanCard : Claim7 := { stood := { row := prefixSpanRow, standIns := [], harness := (true, "72c3aef96ce91d2f9a03db113ce89fa2c840360cbeb524bed26f53adccfac777"), looks := false }, kinds := [], alts := [], laidByText := true, laidKinds := [.data, .data, .data], laidTests := true, laidLooks := .later }
def PrefixSpanCardSaid : Prop := Claim7.holds Tryd.pinned (.plain (OpenSpec.ofChange prefixSpanSpec)) prefixSpanCard

/-- THE TIED CARD OF 'handpostlaw.PrefixHalves'. -/
def prefixHalvesCard : Claim7 := { stood := { row := prefixHalvesRow, standIns := [], harness := (true, "72c3aef96ce91d2f9a03db113ce89fa2c840360cbeb524bed26f53adccfac777"), looks := false }, kinds := [], alts := [], laidByText := true, laidKinds := [.data, .data, .data], laidTests := true, laidLooks := .later }
def PrefixHalvesCardSaid : Prop := Claim7.holds Tryd.pinned (.plain (OpenSpec.ofChange prefixHalvesSpec)) prefixHalvesCard

/-- THE TIED CARD OF 'handpostlaw.PrefixDoes'. -/
def prefixDoesCard : Claim7 := { stood := { row := prefixDoesRow, standIns := [], harness := (true, "72c3aef96ce91d2f9a03db113ce89fa2c840360cbeb524bed26f53adccfac777"), looks := false }, kinds := [], alts := [], laidByText := true, laidKinds := [.data, .data, .data], laidTests := true, laidLooks := .later }
def PrefixDoesCardSaid : Prop := Claim7.holds Tryd.pinned (.plain (OpenSpec.ofChange prefixDoesSpec)) prefixDoesCard

/-- THE SECOND FORM's CARD OF 'handpostlaw.PrefixBack'. -/
def prefixBackUptoCard : Claim7 := { stood := { row := prefixBackUptoRow, standIns := [], harness := (true, "72c3aef96ce91d2f9a03db113ce89fa2c840360cbeb524bed26f53adccfac777"), looks := false }, kinds := [], alts := [], laidByText := true, laidKinds := [.data, .data, .data], laidTests := true, laidLooks := .later }
def PrefixBackUptoCardSaid : Prop := Claim7.holds Tryd.pinned (.plain (OpenSpec.upto prefixBackSpec)) prefixBackUptoCard

/-- THE SECOND FORM's CARD OF 'handpostlaw.PrefixOrder'. -/
def prefixOrderUptoCard : Claim7 := { stood := { row := prefixOrderUptoRow, standIns := [], harness := (true, "72c3aef96ce91d2f9a03db113ce89fa2c840360cbeb524bed26f53adccfac777"), looks := false }, kinds := [], alts := [], laidByText := true, laidKinds := [.data, .data, .data], laidTests := true, laidLooks := .later }
def PrefixOrderUptoCardSaid : Prop := Claim7.holds Tryd.pinned (.plain (OpenSpec.upto prefixOrderSpec)) prefixOrderUptoCard

/-- THE SECOND FORM's CARD OF 'handpostlaw.PrefixSpan'. -/
def prefixSpanUptoCard : Claim7 := { stood := { row := prefixSpanUptoRow, standIns := [], harness := (true, "72c3aef96ce91d2f9a03db113ce89fa2c840360cbeb524bed26f53adccfac777"), looks := false }, kinds := [], alts := [], laidByText := true, laidKinds := [.data, .data, .data], laidTests := true, laidLooks := .later }
def PrefixSpanUptoCardSaid : Prop := Claim7.holds Tryd.pinned (.plain (OpenSpec.upto prefixSpanSpec)) prefixSpanUptoCard

/-- THE SECOND FORM's CARD OF 'handpostlaw.PrefixHalves'. -/
def prefixHalvesUptoCard : Claim7 := { stood := { row := prefixHalvesUptoRow, standIns := [], harness := (true, "72c3aef96ce91d2f9a03db113ce89fa2c840360cbeb524bed26f53adccfac777"), looks := false }, kinds := [], alts := [], laidByText := true, laidKinds := [.data, .data, .data], laidTests := true, laidLooks := .later }
def PrefixHalvesUptoCardSaid : Prop := Claim7.holds Tryd.pinned (.plain (OpenSpec.upto prefixHalvesSpec)) prefixHalvesUptoCard

/-- THE SECOND FORM's CARD OF 'handpostlaw.PrefixDoes'. -/
def prefixDoesUptoCard : Claim7 := { stood := { row := prefixDoesUptoRow, standIns := [], harness := (true, "72c3aef96ce91d2f9a03db113ce89fa2c840360cbeb524bed26f53adccfac777"), looks := false }, kinds := [], alts := [], laidByText := true, laidKinds := [.data, .data, .data], laidTests := true, laidLooks := .later }
def PrefixDoesUptoCardSaid : Prop := Claim7.holds Tryd.pinned (.plain (OpenSpec.upto prefixDoesSpec)) prefixDoesUptoCard
end Rows
end Go.Proofs.YtglngngcohcmfaaDoor
