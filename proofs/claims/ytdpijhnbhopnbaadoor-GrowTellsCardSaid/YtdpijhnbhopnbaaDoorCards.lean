/-
  DERIVED. GIVEN WITH THE SEED: THE CARDS: each row of YtdpijhnbhopnbaaDoorRows.lean that lists a variable, with what it lists TIED to the program's text (the seventh form; the later family's looks); each row that meets fmt, with fmt's text TOLD by the authors' own Lean function (tested against real Go, not proved from fmt's source: count such statements apart). THE CARD IS WHAT COUNTS. Prove the row's statement (the work); the ties are given (YtdpijhnbhopnbaaDoorTie.lean); close each card by the builder's one call (the guide's Derived/Test/ToyasCard.lean, 'card_holds'). Laid BY PROGRAM, IN A SANDBOX (cutbox-door.mjs). By AI agents, Wed Nov 11 2026. No macro, syntax, notation, axiom, sorry.
-/
import Derived.Test.YtdpijhnbhopnbaaDoorRows
import GoSem.ClaimSeven
namespace Go.Proofs.YtdpijhnbhopnbaaDoor
namespace Rows

/-- THE TIED CARD OF 'orchlaw2.GrowTells'. -/
def growTellsCard : Claim7 := { stood := { row := growTellsRow, standIns := [], harness := (true, "572e287a4fa3fbf4538bb53ebb75499d625f873a4b66af010f10d4e886a03cd5"), looks := true }, kinds := [], alts := [], laidByText := true, laidKinds := [.handle], laidTests := true, laidLooks := .later }
def GrowTellsCardSaid : Prop := Claim7.holds Tryd.pinned (.plain (OpenSpec.ofChange growTellsSpec)) growTellsCard

/-- THE SECOND FORM's CARD OF 'orchlaw2.GrowTells'. -/
def growTellsUptoCard : Claim7 := { stood := { row := growTellsUptoRow, standIns := [], harness := (true, "572e287a4fa3fbf4538bb53ebb75499d625f873a4b66af010f10d4e886a03cd5"), looks := true }, kinds := [], alts := [], laidByText := true, laidKinds := [.handle], laidTests := true, laidLooks := .later }
def GrowTellsUptoCardSaid : Prop := Claim7.holds Tryd.pinned (.plain (OpenSpec.upto growTellsSpec)) growTellsUptoCard
end Rows
end Go.Proofs.YtdpijhnbhopnbaaDoor
