/-
  DERIVED. GIVEN WITH THE SEED: THE CARDS: each row of YtdpijhnbhopnbaaGreatDoorRows.lean that lists a variable, with what it lists TIED to the program's text (the seventh form; the later family's looks); each row that meets fmt, with fmt's text TOLD by the authors' own Lean function (tested against real Go, not proved from fmt's source: count such statements apart). THE CARD IS WHAT COUNTS. Prove the row's statement (the work); the ties are given (YtdpijhnbhopnbaaGreatDoorTie.lean); close each card by the builder's one call (the guide's Derived/Test/ToyasCard.lean, 'card_holds'). Laid BY PROGRAM, IN A SANDBOX (cutbox-door.mjs). By AI agents, Wed Nov 11 2026. No macro, syntax, notation, axiom, sorry.
-/
import Derived.Test.YtdpijhnbhopnbaaGreatDoorRows
import GoSem.ClaimSeven
namespace Go.Proofs.YtdpijhnbhopnbaaGreatDoor
namespace Rows

/-- THE TIED CARD OF 'orchlaw2.BoostTells'. -/
def boostTellsCard : Claim7 := { stood := { row := boostTellsRow, standIns := [], harness := (true, "56d942f746c215ae0312e196f3377b793e89cbe8269f267f38171210ef61912b"), looks := true }, kinds := [], alts := [], laidByText := true, laidKinds := [.handle], laidTests := true, laidLooks := .later }
def BoostTellsCardSaid : Prop := Claim7.holds Tryz.pinned (.plain (OpenSpec.ofChange boostTellsSpec)) boostTellsCard

/-- THE SECOND FORM's CARD OF 'orchlaw2.BoostTells'. -/
def boostTellsUptoCard : Claim7 := { stood := { row := boostTellsUptoRow, standIns := [], harness := (true, "56d942f746c215ae0312e196f3377b793e89cbe8269f267f38171210ef61912b"), looks := true }, kinds := [], alts := [], laidByText := true, laidKinds := [.handle], laidTests := true, laidLooks := .later }
def BoostTellsUptoCardSaid : Prop := Claim7.holds Tryz.pinned (.plain (OpenSpec.upto boostTellsSpec)) boostTellsUptoCard
end Rows
end Go.Proofs.YtdpijhnbhopnbaaGreatDoor
