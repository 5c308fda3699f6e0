/-
  DERIVED. GIVEN WITH THE SEED: THE CARDS: each row of YtafaedhjlmkamaaGreatDoorRows.lean that lists a variable, with what it lists TIED to the program's text (the seventh form; the later family's looks); each row that meets fmt, with fmt's text TOLD by the authors' own Lean function (tested against real Go, not proved from fmt's source: count such statements apart). THE CARD IS WHAT COUNTS. Prove the row's statement (the work); the ties are given (YtafaedhjlmkamaaGreatDoorTie.lean); close each card by the builder's one call (the guide's Derived/Test/ToyasCard.lean, 'card_holds'). Laid BY PROGRAM, IN A SANDBOX (cutbox-door.mjs). By AI agents, Wed Nov 11 2026. No macro, syntax, notation, axiom, sorry.
-/
import Derived.Test.YtafaedhjlmkamaaGreatDoorRows
import GoSem.ClaimSeven
namespace Go.Proofs.YtafaedhjlmkamaaGreatDoor
namespace Rows

/-- THE TIED CARD OF 'orchlaw2.LimitTells'. -/
def limitTellsCard : Claim7 := { stood := { row := limitTellsRow, standIns := [], harness := (true, "c1d30c72fba9110a166ca58f9988e813340132ac95b631cc21f8a59fd3c1bd38"), looks := true }, kinds := [], alts := [], laidByText := true, laidKinds := [.handle], laidTests := true, laidLooks := .later }
def LimitTellsCardSaid : Prop := Claim7.holds Tryz.pinned (.plain (OpenSpec.ofChange limitTellsSpec)) limitTellsCard

/-- THE SECOND FORM's CARD OF 'orchlaw2.LimitTells'. -/
def limitTellsUptoCard : Claim7 := { stood := { row := limitTellsUptoRow, standIns := [], harness := (true, "c1d30c72fba9110a166ca58f9988e813340132ac95b631cc21f8a59fd3c1bd38"), looks := true }, kinds := [], alts := [], laidByText := true, laidKinds := [.handle], laidTests := true, laidLooks := .later }
def LimitTellsUptoCardSaid : Prop := Claim7.holds Tryz.pinned (.plain (OpenSpec.upto limitTellsSpec)) limitTellsUptoCard
end Rows
end Go.Proofs.YtafaedhjlmkamaaGreatDoor
