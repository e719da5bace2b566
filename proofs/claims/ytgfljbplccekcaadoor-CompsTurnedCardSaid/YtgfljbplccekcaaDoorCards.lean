/-
  DERIVED. GIVEN WITH THE SEED: THE CARDS: each row of YtgfljbplccekcaaDoorRows.lean that lists a variable, with what it lists TIED to the program's text (the seventh form; the later family's looks); each row that meets fmt, with fmt's text TOLD by the authors' own Lean function (tested against real Go, not proved from fmt's source: count such statements apart). THE CARD IS WHAT COUNTS. Prove the row's statement (the work); the ties are given (YtgfljbplccekcaaDoorTie.lean); close each card by the builder's one call (the guide's Derived/Test/ToyasCard.lean, 'card_holds'). Laid BY PROGRAM, IN A SANDBOX (cutbox-door.mjs). By AI agents, Wed Nov 11 2026. No macro, syntax, notation, axiom, sorry.
-/
import Derived.Test.YtgfljbplccekcaaDoorRows
import GoSem.ClaimSeven
namespace Go.Proofs.YtgfljbplccekcaaDoor
namespace Rows

/-- THE TIED CARD OF 'assayerlaw17.SearchNone'. -/
def searchNoneCard : Claim7 := { stood := { row := searchNoneRow, standIns := [], harness := (true, "20fb458e8609f32628ddae57d264f4ec334e07b446f6aa0f68a22740bedaeb1b"), looks := true }, kinds := [], alts := [], laidByText := true, laidKinds := [.data, .data, .data], laidTests := true, laidLooks := .later }
def SearchNoneCardSaid : Prop := Claim7.holds Tryd.pinned (.plain (OpenSpec.ofChange searchNoneSpec)) searchNoneCard

/-- THE TIED CARD OF 'assayerlaw17.SearchYes'. -/
def searchYesCard : Claim7 := { stood := { row := searchYesRow, standIns := [], harness := (true, "20fb458e8609f32628ddae57d264f4ec334e07b446f6aa0f68a22740bedaeb1b"), looks := true }, kinds := [], alts := [], laidByText := true, laidKinds := [.data, .data, .data], laidTests := true, laidLooks := .later }
def SearchYesCardSaid : Prop := Claim7.holds Tryd.pinned (.plain (OpenSpec.ofChange searchYesSpec)) searchYesCard

/-- THE TIED CARD OF 'assayerlaw17.SearchServed'. -/
def searchServedCard : Claim7 := { stood := { row := searchServedRow, standIns := [], harness := (true, "20fb458e8609f32628ddae57d264f4ec334e07b446f6aa0f68a22740bedaeb1b"), looks := true }, kinds := [], alts := [], laidByText := true, laidKinds := [.data, .data, .data], laidTests := true, laidLooks := .later }
def SearchServedCardSaid : Prop := Claim7.holds Tryd.pinned (.plain (OpenSpec.ofChange searchServedSpec)) searchServedCard

/-- THE TIED CARD OF 'assayerlaw17.SearchTurned'. -/
def searchTurnedCard : Claim7 := { stood := { row := searchTurnedRow, standIns := [], harness := (true, "20fb458e8609f32628ddae57d264f4ec334e07b446f6aa0f68a22740bedaeb1b"), looks := true }, kinds := [], alts := [], laidByText := true, laidKinds := [.data, .data, .data], laidTests := true, laidLooks := .later }
def SearchTurnedCardSaid : Prop := Claim7.holds Tryd.pinned (.plain (OpenSpec.ofChange searchTurnedSpec)) searchTurnedCard

/-- THE TIED CARD OF 'assayerlaw07.CompsTells'. -/
def compsTellsCard : Claim7 := { stood := { row := compsTellsRow, standIns := [], harness := (true, "20fb458e8609f32628ddae57d264f4ec334e07b446f6aa0f68a22740bedaeb1b"), looks := true }, kinds := [], alts := [], laidByText := true, laidKinds := [.data], laidTests := true, laidLooks := .later }
def CompsTellsCardSaid : Prop := Claim7.holds Tryd.pinned (.plain (OpenSpec.ofChange compsTellsSpec)) compsTellsCard

/-- THE TIED CARD OF 'assayerlaw07.CompsParts'. -/
def compsPartsCard : Claim7 := { stood := { row := compsPartsRow, standIns := [], harness := (true, "20fb458e8609f32628ddae57d264f4ec334e07b446f6aa0f68a22740bedaeb1b"), looks := true }, kinds := [], alts := [], laidByText := true, laidKinds := [.data], laidTests := true, laidLooks := .later }
def CompsPartsCardSaid : Prop := Claim7.holds Tryd.pinned (.plain (OpenSpec.ofChange compsPartsSpec)) compsPartsCard

/-- THE TIED CARD OF 'assayerlaw07.CompsRing'. -/
def compsRingCard : Claim7 := { stood := { row := compsRingRow, standIns := [], harness := (true, "20fb458e8609f32628ddae57d264f4ec334e07b446f6aa0f68a22740bedaeb1b"), looks := true }, kinds := [], alts := [], laidByText := true, laidKinds := [.data], laidTests := true, laidLooks := .later }
def CompsRingCardSaid : Prop := Claim7.holds Tryd.pinned (.plain (OpenSpec.ofChange compsRingSpec)) compsRingCard

/-- THE TIED CARD OF 'assayerlaw07.CompsNobody'. -/
def compsNobodyCard : Claim7 := { stood := { row := compsNobodyRow, standIns := [], harness := (true, "20fb458e8609f32628ddae57d264f4ec334e07b446f6aa0f68a22740bedaeb1b"), looks := true }, kinds := [], alts := [], laidByText := true, laidKinds := [.data], laidTests := true, laidLooks := .later }
def CompsNobodyCardSaid : Prop := Claim7.holds Tryd.pinned (.plain (OpenSpec.ofChange compsNobodySpec)) compsNobodyCard

/-- THE TIED CARD OF 'assayerlaw12.RegsRises'. -/
def regsRisesCard : Claim7 := { stood := { row := regsRisesRow, standIns := [], harness := (true, "20fb458e8609f32628ddae57d264f4ec334e07b446f6aa0f68a22740bedaeb1b"), looks := true }, kinds := [], alts := [], laidByText := true, laidKinds := [.data], laidTests := true, laidLooks := .later }
def RegsRisesCardSaid : Prop := Claim7.holds Tryd.pinned (.plain (OpenSpec.ofChange regsRisesSpec)) regsRisesCard

/-- THE TIED CARD OF 'assayerlaw07.CompsTurned'. -/
def compsTurnedCard : Claim7 := { stood := { row := compsTurnedRow, standIns := [], harness := (true, "20fb458e8609f32628ddae57d264f4ec334e07b446f6aa0f68a22740bedaeb1b"), looks := true }, kinds := [], alts := [], laidByText := true, laidKinds := [.data], laidTests := true, laidLooks := .later }
def CompsTurnedCardSaid : Prop := Claim7.holds Tryd.pinned (.plain (OpenSpec.ofChange compsTurnedSpec)) compsTurnedCard

/-- THE TIED CARD OF 'assayerlaw12.RegsServed'. -/
def regsServedCard : Claim7 := { stood := { row := regsServedRow, standIns := [], harness := (true, "20fb458e8609f32628ddae57d264f4ec334e07b446f6aa0f68a22740bedaeb1b"), looks := true }, kinds := [], alts := [], laidByText := true, laidKinds := [.data], laidTests := true, laidLooks := .later }
def RegsServedCardSaid : Prop := Claim7.holds Tryd.pinned (.plain (OpenSpec.ofChange regsServedSpec)) regsServedCard

/-- THE TIED CARD OF 'assayerlaw12.RegsTwice'. -/
def regsTwiceCard : Claim7 := { stood := { row := regsTwiceRow, standIns := [], harness := (true, "20fb458e8609f32628ddae57d264f4ec334e07b446f6aa0f68a22740bedaeb1b"), looks := true }, kinds := [], alts := [], laidByText := true, laidKinds := [.data], laidTests := true, laidLooks := .later }
def RegsTwiceCardSaid : Prop := Claim7.holds Tryd.pinned (.plain (OpenSpec.ofChange regsTwiceSpec)) regsTwiceCard

/-- THE TIED CARD OF 'assayerlaw12.RegsNobody'. -/
def regsNobodyCard : Claim7 := { stood := { row := regsNobodyRow, standIns := [], harness := (true, "20fb458e8609f32628ddae57d264f4ec334e07b446f6aa0f68a22740bedaeb1b"), looks := true }, kinds := [], alts := [], laidByText := true, laidKinds := [.data], laidTests := true, laidLooks := .later }
def RegsNobodyCardSaid : Prop := Claim7.holds Tryd.pinned (.plain (OpenSpec.ofChange regsNobodySpec)) regsNobodyCard

/-- THE SECOND FORM's CARD OF 'assayerlaw17.SearchNone'. -/
def searchNoneUptoCard : Claim7 := { stood := { row := searchNoneUptoRow, standIns := [], harness := (true, "20fb458e8609f32628ddae57d264f4ec334e07b446f6aa0f68a22740bedaeb1b"), looks := true }, kinds := [], alts := [], laidByText := true, laidKinds := [.data, .data, .data], laidTests := true, laidLooks := .later }
def SearchNoneUptoCardSaid : Prop := Claim7.holds Tryd.pinned (.plain (OpenSpec.upto searchNoneSpec)) searchNoneUptoCard

/-- THE SECOND FORM's CARD OF 'assayerlaw17.SearchYes'. -/
def searchYesUptoCard : Claim7 := { stood := { row := searchYesUptoRow, standIns := [], harness := (true, "20fb458e8609f32628ddae57d264f4ec334e07b446f6aa0f68a22740bedaeb1b"), looks := true }, kinds := [], alts := [], laidByText := true, laidKinds := [.data, .data, .data], laidTests := true, laidLooks := .later }
def SearchYesUptoCardSaid : Prop := Claim7.holds Tryd.pinned (.plain (OpenSpec.upto searchYesSpec)) searchYesUptoCard

/-- THE SECOND FORM's CARD OF 'assayerlaw17.SearchServed'. -/
def searchServedUptoCard : Claim7 := { stood := { row := searchServedUptoRow, standIns := [], harness := (true, "20fb458e8609f32628ddae57d264f4ec334e07b446f6aa0f68a22740bedaeb1b"), looks := true }, kinds := [], alts := [], laidByText := true, laidKinds := [.data, .data, .data], laidTests := true, laidLooks := .later }
def SearchServedUptoCardSaid : Prop := Claim7.holds Tryd.pinned (.plain (OpenSpec.upto searchServedSpec)) searchServedUptoCard

/-- THE SECOND FORM's CARD OF 'assayerlaw17.SearchTurned'. -/
def searchTurnedUptoCard : Claim7 := { stood := { row := searchTurnedUptoRow, standIns := [], harness := (true, "20fb458e8609f32628ddae57d264f4ec334e07b446f6aa0f68a22740bedaeb1b"), looks := true }, kinds := [], alts := [], laidByText := true, laidKinds := [.data, .data, .data], laidTests := true, laidLooks := .later }
def SearchTurnedUptoCardSaid : Prop := Claim7.holds Tryd.pinned (.plain (OpenSpec.upto searchTurnedSpec)) searchTurnedUptoCard

/-- THE SECOND FORM's CARD OF 'assayerlaw07.CompsTells'. -/
def compsTellsUptoCard : Claim7 := { stood := { row := compsTellsUptoRow, standIns := [], harness := (true, "20fb458e8609f32628ddae57d264f4ec334e07b446f6aa0f68a22740bedaeb1b"), looks := true }, kinds := [], alts := [], laidByText := true, laidKinds := [.data], laidTests := true, laidLooks := .later }
def CompsTellsUptoCardSaid : Prop := Claim7.holds Tryd.pinned (.plain (OpenSpec.upto compsTellsSpec)) compsTellsUptoCard

/-- THE SECOND FORM's CARD OF 'assayerlaw07.CompsParts'. -/
def compsPartsUptoCard : Claim7 := { stood := { row := compsPartsUptoRow, standIns := [], harness := (true, "20fb458e8609f32628ddae57d264f4ec334e07b446f6aa0f68a22740bedaeb1b"), looks := true }, kinds := [], alts := [], laidByText := true, laidKinds := [.data], laidTests := true, laidLooks := .later }
def CompsPartsUptoCardSaid : Prop := Claim7.holds Tryd.pinned (.plain (OpenSpec.upto compsPartsSpec)) compsPartsUptoCard

/-- THE SECOND FORM's CARD OF 'assayerlaw07.CompsRing'. -/
def compsRingUptoCard : Claim7 := { stood := { row := compsRingUptoRow, standIns := [], harness := (true, "20fb458e8609f32628ddae57d264f4ec334e07b446f6aa0f68a22740bedaeb1b"), looks := true }, kinds := [], alts := [], laidByText := true, laidKinds := [.data], laidTests := true, laidLooks := .later }
def CompsRingUptoCardSaid : Prop := Claim7.holds Tryd.pinned (.plain (OpenSpec.upto compsRingSpec)) compsRingUptoCard

/-- THE SECOND FORM's CARD OF 'assayerlaw07.CompsNobody'. -/
def compsNobodyUptoCard : Claim7 := { stood := { row := compsNobodyUptoRow, standIns := [], harness := (true, "20fb458e8609f32628ddae57d264f4ec334e07b446f6aa0f68a22740bedaeb1b"), looks := true }, kinds := [], alts := [], laidByText := true, laidKinds := [.data], laidTests := true, laidLooks := .later }
def CompsNobodyUptoCardSaid : Prop := Claim7.holds Tryd.pinned (.plain (OpenSpec.upto compsNobodySpec)) compsNobodyUptoCard

/-- THE SECOND FORM's CARD OF 'assayerlaw12.RegsRises'. -/
def regsRisesUptoCard : Claim7 := { stood := { row := regsRisesUptoRow, standIns := [], harness := (true, "20fb458e8609f32628ddae57d264f4ec334e07b446f6aa0f68a22740bedaeb1b"), looks := true }, kinds := [], alts := [], laidByText := true, laidKinds := [.data], laidTests := true, laidLooks := .later }
def RegsRisesUptoCardSaid : Prop := Claim7.holds Tryd.pinned (.plain (OpenSpec.upto regsRisesSpec)) regsRisesUptoCard

/-- THE SECOND FORM's CARD OF 'assayerlaw07.CompsTurned'. -/
def compsTurnedUptoCard : Claim7 := { stood := { row := compsTurnedUptoRow, standIns := [], harness := (true, "20fb458e8609f32628ddae57d264f4ec334e07b446f6aa0f68a22740bedaeb1b"), looks := true }, kinds := [], alts := [], laidByText := true, laidKinds := [.data], laidTests := true, laidLooks := .later }
def CompsTurnedUptoCardSaid : Prop := Claim7.holds Tryd.pinned (.plain (OpenSpec.upto compsTurnedSpec)) compsTurnedUptoCard

/-- THE SECOND FORM's CARD OF 'assayerlaw12.RegsServed'. -/
def regsServedUptoCard : Claim7 := { stood := { row := regsServedUptoRow, standIns := [], harness := (true, "20fb458e8609f32628ddae57d264f4ec334e07b446f6aa0f68a22740bedaeb1b"), looks := true }, kinds := [], alts := [], laidByText := true, laidKinds := [.data], laidTests := true, laidLooks := .later }
def RegsServedUptoCardSaid : Prop := Claim7.holds Tryd.pinned (.plain (OpenSpec.upto regsServedSpec)) regsServedUptoCard

/-- THE SECOND FORM's CARD OF 'assayerlaw12.RegsTwice'. -/
def regsTwiceUptoCard : Claim7 := { stood := { row := regsTwiceUptoRow, standIns := [], harness := (true, "20fb458e8609f32628ddae57d264f4ec334e07b446f6aa0f68a22740bedaeb1b"), looks := true }, kinds := [], alts := [], laidByText := true, laidKinds := [.data], laidTests := true, laidLooks := .later }
def RegsTwiceUptoCardSaid : Prop := Claim7.holds Tryd.pinned (.plain (OpenSpec.upto regsTwiceSpec)) regsTwiceUptoCard

/-- THE SECOND FORM's CARD OF 'assayerlaw12.RegsNobody'. -/
def regsNobodyUptoCard : Claim7 := { stood := { row := regsNobodyUptoRow, standIns := [], harness := (true, "20fb458e8609f32628ddae57d264f4ec334e07b446f6aa0f68a22740bedaeb1b"), looks := true }, kinds := [], alts := [], laidByText := true, laidKinds := [.data], laidTests := true, laidLooks := .later }
def RegsNobodyUptoCardSaid : Prop := Claim7.holds Tryd.pinned (.plain (OpenSpec.upto regsNobodySpec)) regsNobodyUptoCard
end Rows
end Go.Proofs.YtgfljbplccekcaaDoor
