/-
  DERIVED. GIVEN WITH THE SEED: THE CARDS: each row of YtbaaojaoadjnmaeDoorRows.lean that lists a variable, with what it lists TIED to the program's text (the seventh form; the later family's looks); each row that meets fmt, with fmt's text TOLD by the authors' own Lean function (tested against real Go, not proved from fmt's source: count such statements apart). THE CARD IS WHAT COUNTS. Prove the row's statement (the work); the ties are given (YtbaaojaoadjnmaeDoorTie.lean); close each card by the builder's one call (the guide's Derived/Test/ToyasCard.lean, 'card_holds'). Laid BY PROGRAM, IN A SANDBOX (cutbox-door.mjs). By AI agents, Wed Nov 11 2026. No macro, syntax, notation, axiom, sorry.
-/
import Derived.Test.YtbaaojaoadjnmaeDoorRows
import GoSem.ClaimSeven
namespace Go.Proofs.YtbaaojaoadjnmaeDoor
namespace Rows

/-- THE TIED CARD OF 'roadlaw5.ReplayTexts'. -/
def replayTextsCard : Claim7 := { stood := { row := replayTextsRow, standIns := [], harness := (true, "531d7f4bfe28c0ccde6f633a7b30bf0fdb5ba96376486a5225430f128646df28"), looks := true }, kinds := [], alts := [], laidByText := true, laidKinds := [.data, .data, .data, .data, .sentinel, .sentinel, .pinned], laidTests := true, laidLooks := .later }
def ReplayTextsCardSaid : Prop := Claim7.holds Tryd.pinned (.plain (OpenSpec.ofChange replayTextsSpec)) replayTextsCard

/-- THE SECOND FORM's CARD OF 'roadlaw5.ReplayTexts'. -/
def replayTextsUptoCard : Claim7 := { stood := { row := replayTextsUptoRow, standIns := [], harness := (true, "531d7f4bfe28c0ccde6f633a7b30bf0fdb5ba96376486a5225430f128646df28"), looks := true }, kinds := [], alts := [], laidByText := true, laidKinds := [.data, .data, .data, .data, .sentinel, .sentinel, .pinned], laidTests := true, laidLooks := .later }
def ReplayTextsUptoCardSaid : Prop := Claim7.holds Tryd.pinned (.plain (OpenSpec.upto replayTextsSpec)) replayTextsUptoCard
end Rows
end Go.Proofs.YtbaaojaoadjnmaeDoor
