/-
  DERIVED. GIVEN WITH THE SEED: THE CARDS: each row of YtcneacooedefjaaDoorRows.lean that lists a variable, with what it lists TIED to the program's text (the seventh form; the later family's looks); each row that meets fmt, with fmt's text TOLD by the authors' own Lean function (tested against real Go, not proved from fmt's source: count such statements apart). THE CARD IS WHAT COUNTS. Prove the row's statement (the work); the ties are given (YtcneacooedefjaaDoorTie.lean); close each card by the builder's one call (the guide's Derived/Test/ToyasCard.lean, 'card_holds'). Laid BY PROGRAM, IN A SANDBOX (cutbox-door.mjs). By AI agents, Wed Nov 11 2026. No macro, syntax, notation, axiom, sorry.
-/
import Derived.Test.YtcneacooedefjaaDoorRows
import GoSem.ClaimSeven
namespace Go.Proofs.YtcneacooedefjaaDoor
namespace Rows

/-- THE TIED CARD OF 'orchlaw4.FlatAgain'. -/
def flatAgainCard : Claim7 := { stood := { row := flatAgainRow, standIns := [], harness := (true, "0e6505c4892d36beba3535b31e5bb9373786756f3532de48c801e3a5a9d4b658"), looks := true }, kinds := [], alts := [], laidByText := true, laidKinds := [.handle], laidTests := true, laidLooks := .later }
def FlatAgainCardSaid : Prop := Claim7.holds Tryd.pinned (.plain (OpenSpec.ofChange flatAgainSpec)) flatAgainCard

/-- THE TIED CARD OF 'orchlaw1.FlatTells'. -/
def flatTellsCard : Claim7 := { stood := { row := flatTellsRow, standIns := [], harness := (true, "0e6505c4892d36beba3535b31e5bb9373786756f3532de48c801e3a5a9d4b658"), looks := true }, kinds := [], alts := [], laidByText := true, laidKinds := [.handle], laidTests := true, laidLooks := .later }
def FlatTellsCardSaid : Prop := Claim7.holds Tryd.pinned (.plain (OpenSpec.ofChange flatTellsSpec)) flatTellsCard

/-- THE SECOND FORM's CARD OF 'orchlaw4.FlatAgain'. -/
def flatAgainUptoCard : Claim7 := { stood := { row := flatAgainUptoRow, standIns := [], harness := (true, "0e6505c4892d36beba3535b31e5bb9373786756f3532de48c801e3a5a9d4b658"), looks := true }, kinds := [], alts := [], laidByText := true, laidKinds := [.handle], laidTests := true, laidLooks := .later }
def FlatAgainUptoCardSaid : Prop := Claim7.holds Tryd.pinned (.plain (OpenSpec.upto flatAgainSpec)) flatAgainUptoCard

/-- THE SECOND FORM's CARD OF 'orchlaw1.FlatTells'. -/
def flatTellsUptoCard : Claim7 := { stood := { row := flatTellsUptoRow, standIns := [], harness := (true, "0e6505c4892d36beba3535b31e5bb9373786756f3532de48c801e3a5a9d4b658"), looks := true }, kinds := [], alts := [], laidByText := true, laidKinds := [.handle], laidTests := true, laidLooks := .later }
def FlatTellsUptoCardSaid : Prop := Claim7.holds Tryd.pinned (.plain (OpenSpec.upto flatTellsSpec)) flatTellsUptoCard
end Rows
end Go.Proofs.YtcneacooedefjaaDoor
