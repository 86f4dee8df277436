/-
  DERIVED. GIVEN WITH THE SEED: THE CARDS: each row of YtejmlkfdkodabaaDoorRows.lean that lists a variable, with what it lists TIED to the program's text (the seventh form; the later family's looks); each row that meets fmt, with fmt's text TOLD by the authors' own Lean function (tested against real Go, not proved from fmt's source: count such statements apart). THE CARD IS WHAT COUNTS. Prove the row's statement (the work); the ties are given (YtejmlkfdkodabaaDoorTie.lean); close each card by the builder's one call (the guide's Derived/Test/ToyasCard.lean, 'card_holds'). Laid BY PROGRAM, IN A SANDBOX (cutbox-door.mjs). By AI agents, Wed Nov 11 2026. No macro, syntax, notation, axiom, sorry.
-/
import Derived.Test.YtejmlkfdkodabaaDoorRows
import GoSem.ClaimSeven
namespace Go.Proofs.YtejmlkfdkodabaaDoor
namespace Rows

/-- THE TIED CARD OF 'letterbaglaw25.PresortLeast'. -/
def presortLeastCard : Claim7 := { stood := { row := presortLeastRow, standIns := [], harness := (true, "ac0b52dc5835120097aa1a0646179499cfb528c72552e35d47e56697ade5732c"), looks := false }, kinds := [], alts := [], laidByText := true, laidKinds := [.data, .pinned], laidTests := true, laidLooks := .later }
def PresortLeastCardSaid : Prop := Claim7.holds Tryd.pinned (.plain (OpenSpec.ofChange presortLeastSpec)) presortLeastCard

/-- THE TIED CARD OF 'letterbaglaw25.PresortMeets'. -/
def presortMeetsCard : Claim7 := { stood := { row := presortMeetsRow, standIns := [], harness := (true, "ac0b52dc5835120097aa1a0646179499cfb528c72552e35d47e56697ade5732c"), looks := false }, kinds := [], alts := [], laidByText := true, laidKinds := [.data, .pinned], laidTests := true, laidLooks := .later }
def PresortMeetsCardSaid : Prop := Claim7.holds Tryd.pinned (.plain (OpenSpec.ofChange presortMeetsSpec)) presortMeetsCard

/-- THE TIED CARD OF 'letterbaglaw25.PresortBeats'. -/
def presortBeatsCard : Claim7 := { stood := { row := presortBeatsRow, standIns := [], harness := (true, "ac0b52dc5835120097aa1a0646179499cfb528c72552e35d47e56697ade5732c"), looks := false }, kinds := [], alts := [], laidByText := true, laidKinds := [.data, .pinned], laidTests := true, laidLooks := .later }
def PresortBeatsCardSaid : Prop := Claim7.holds Tryd.pinned (.plain (OpenSpec.ofChange presortBeatsSpec)) presortBeatsCard

/-- THE TIED CARD OF 'letterbaglaw25.PresortGrows'. -/
def presortGrowsCard : Claim7 := { stood := { row := presortGrowsRow, standIns := [], harness := (true, "ac0b52dc5835120097aa1a0646179499cfb528c72552e35d47e56697ade5732c"), looks := false }, kinds := [], alts := [], laidByText := true, laidKinds := [.data, .pinned], laidTests := true, laidLooks := .later }
def PresortGrowsCardSaid : Prop := Claim7.holds Tryd.pinned (.plain (OpenSpec.ofChange presortGrowsSpec)) presortGrowsCard

/-- THE TIED CARD OF 'letterbaglaw25.PresortSame'. -/
def presortSameCard : Claim7 := { stood := { row := presortSameRow, standIns := [], harness := (true, "ac0b52dc5835120097aa1a0646179499cfb528c72552e35d47e56697ade5732c"), looks := false }, kinds := [], alts := [], laidByText := true, laidKinds := [.data, .pinned], laidTests := true, laidLooks := .later }
def PresortSameCardSaid : Prop := Claim7.holds Tryd.pinned (.plain (OpenSpec.ofChange presortSameSpec)) presortSameCard

/-- THE TIED CARD OF 'letterbaglaw25.PresortFew'. -/
def presortFewCard : Claim7 := { stood := { row := presortFewRow, standIns := [], harness := (true, "ac0b52dc5835120097aa1a0646179499cfb528c72552e35d47e56697ade5732c"), looks := false }, kinds := [], alts := [], laidByText := true, laidKinds := [.data, .pinned], laidTests := true, laidLooks := .later }
def PresortFewCardSaid : Prop := Claim7.holds Tryd.pinned (.plain (OpenSpec.ofChange presortFewSpec)) presortFewCard

/-- THE TIED CARD OF 'letterbaglaw25.PresortWrong'. -/
def presortWrongCard : Claim7 := { stood := { row := presortWrongRow, standIns := [], harness := (true, "ac0b52dc5835120097aa1a0646179499cfb528c72552e35d47e56697ade5732c"), looks := false }, kinds := [], alts := [], laidByText := true, laidKinds := [.data, .pinned], laidTests := true, laidLooks := .later }
def PresortWrongCardSaid : Prop := Claim7.holds Tryd.pinned (.plain (OpenSpec.ofChange presortWrongSpec)) presortWrongCard

/-- THE SECOND FORM's CARD OF 'letterbaglaw25.PresortLeast'. -/
def presortLeastUptoCard : Claim7 := { stood := { row := presortLeastUptoRow, standIns := [], harness := (true, "ac0b52dc5835120097aa1a0646179499cfb528c72552e35d47e56697ade5732c"), looks := false }, kinds := [], alts := [], laidByText := true, laidKinds := [.data, .pinned], laidTests := true, laidLooks := .later }
def PresortLeastUptoCardSaid : Prop := Claim7.holds Tryd.pinned (.plain (OpenSpec.upto presortLeastSpec)) presortLeastUptoCard

/-- THE SECOND FORM's CARD OF 'letterbaglaw25.PresortMeets'. -/
def presortMeetsUptoCard : Claim7 := { stood := { row := presortMeetsUptoRow, standIns := [], harness := (true, "ac0b52dc5835120097aa1a0646179499cfb528c72552e35d47e56697ade5732c"), looks := false }, kinds := [], alts := [], laidByText := true, laidKinds := [.data, .pinned], laidTests := true, laidLooks := .later }
def PresortMeetsUptoCardSaid : Prop := Claim7.holds Tryd.pinned (.plain (OpenSpec.upto presortMeetsSpec)) presortMeetsUptoCard

/-- THE SECOND FORM's CARD OF 'letterbaglaw25.PresortBeats'. -/
def presortBeatsUptoCard : Claim7 := { stood := { row := presortBeatsUptoRow, standIns := [], harness := (true, "ac0b52dc5835120097aa1a0646179499cfb528c72552e35d47e56697ade5732c"), looks := false }, kinds := [], alts := [], laidByText := true, laidKinds := [.data, .pinned], laidTests := true, laidLooks := .later }
def PresortBeatsUptoCardSaid : Prop := Claim7.holds Tryd.pinned (.plain (OpenSpec.upto presortBeatsSpec)) presortBeatsUptoCard

/-- THE SECOND FORM's CARD OF 'letterbaglaw25.PresortGrows'. -/
def presortGrowsUptoCard : Claim7 := { stood := { row := presortGrowsUptoRow, standIns := [], harness := (true, "ac0b52dc5835120097aa1a0646179499cfb528c72552e35d47e56697ade5732c"), looks := false }, kinds := [], alts := [], laidByText := true, laidKinds := [.data, .pinned], laidTests := true, laidLooks := .later }
def PresortGrowsUptoCardSaid : Prop := Claim7.holds Tryd.pinned (.plain (OpenSpec.upto presortGrowsSpec)) presortGrowsUptoCard

/-- THE SECOND FORM's CARD OF 'letterbaglaw25.PresortSame'. -/
def presortSameUptoCard : Claim7 := { stood := { row := presortSameUptoRow, standIns := [], harness := (true, "ac0b52dc5835120097aa1a0646179499cfb528c72552e35d47e56697ade5732c"), looks := false }, kinds := [], alts := [], laidByText := true, laidKinds := [.data, .pinned], laidTests := true, laidLooks := .later }
def PresortSameUptoCardSaid : Prop := Claim7.holds Tryd.pinned (.plain (OpenSpec.upto presortSameSpec)) presortSameUptoCard

/-- THE SECOND FORM's CARD OF 'letterbaglaw25.PresortFew'. -/
def presortFewUptoCard : Claim7 := { stood := { row := presortFewUptoRow, standIns := [], harness := (true, "ac0b52dc5835120097aa1a0646179499cfb528c72552e35d47e56697ade5732c"), looks := false }, kinds := [], alts := [], laidByText := true, laidKinds := [.data, .pinned], laidTests := true, laidLooks := .later }
def PresortFewUptoCardSaid : Prop := Claim7.holds Tryd.pinned (.plain (OpenSpec.upto presortFewSpec)) presortFewUptoCard

/-- THE SECOND FORM's CARD OF 'letterbaglaw25.PresortWrong'. -/
def presortWrongUptoCard : Claim7 := { stood := { row := presortWrongUptoRow, standIns := [], harness := (true, "ac0b52dc5835120097aa1a0646179499cfb528c72552e35d47e56697ade5732c"), looks := false }, kinds := [], alts := [], laidByText := true, laidKinds := [.data, .pinned], laidTests := true, laidLooks := .later }
def PresortWrongUptoCardSaid : Prop := Claim7.holds Tryd.pinned (.plain (OpenSpec.upto presortWrongSpec)) presortWrongUptoCard
end Rows
end Go.Proofs.YtejmlkfdkodabaaDoor
