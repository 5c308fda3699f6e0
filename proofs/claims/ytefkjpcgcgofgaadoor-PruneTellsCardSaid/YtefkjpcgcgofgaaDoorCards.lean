/-
  DERIVED. GIVEN WITH THE SEED: THE CARDS: each row of YtefkjpcgcgofgaaDoorRows.lean that lists a variable, with what it lists TIED to the program's text (the seventh form; the later family's looks); each row that meets fmt, with fmt's text TOLD by the authors' own Lean function (tested against real Go, not proved from fmt's source: count such statements apart). THE CARD IS WHAT COUNTS. Prove the row's statement (the work); the ties are given (YtefkjpcgcgofgaaDoorTie.lean); close each card by the builder's one call (the guide's Derived/Test/ToyasCard.lean, 'card_holds'). Laid BY PROGRAM, IN A SANDBOX (cutbox-door.mjs). By AI agents, Wed Nov 11 2026. No macro, syntax, notation, axiom, sorry.
-/
import Derived.Test.YtefkjpcgcgofgaaDoorRows
import GoSem.ClaimSeven
namespace Go.Proofs.YtefkjpcgcgofgaaDoor
namespace Rows

/-- THE TIED CARD OF 'orchlaw2.PruneTells'. -/
def pruneTellsCard : Claim7 := { stood := { row := pruneTellsRow, standIns := [], harness := (true, "72e269d5e6ff821fa444f032bb57e6643d24c76a604ae45a78af03ea16e61bf5"), looks := true }, kinds := [], alts := [], laidByText := true, laidKinds := [.handle], laidTests := true, laidLooks := .later }
def PruneTellsCardSaid : Prop := Claim7.holds Tryd.pinned (.plain (OpenSpec.ofChange pruneTellsSpec)) pruneTellsCard

/-- THE TIED CARD OF 'orchlaw2.DifferTells'. -/
def differTellsCard : Claim7 := { stood := { row := differTellsRow, standIns := [], harness := (true, "72e269d5e6ff821fa444f032bb57e6643d24c76a604ae45a78af03ea16e61bf5"), looks := true }, kinds := [], alts := [], laidByText := true, laidKinds := [.handle], laidTests := true, laidLooks := .later }
def DifferTellsCardSaid : Prop := Claim7.holds Tryd.pinned (.plain (OpenSpec.ofChange differTellsSpec)) differTellsCard

/-- THE TIED CARD OF 'orchlaw2.DifferGroves'. -/
def differGrovesCard : Claim7 := { stood := { row := differGrovesRow, standIns := [], harness := (true, "72e269d5e6ff821fa444f032bb57e6643d24c76a604ae45a78af03ea16e61bf5"), looks := true }, kinds := [], alts := [], laidByText := true, laidKinds := [.handle], laidTests := true, laidLooks := .later }
def DifferGrovesCardSaid : Prop := Claim7.holds Tryd.pinned (.plain (OpenSpec.ofChange differGrovesSpec)) differGrovesCard

/-- THE TIED CARD OF 'orchlaw4.PathWords'. -/
def pathWordsCard : Claim7 := { stood := { row := pathWordsRow, standIns := [], harness := (true, "72e269d5e6ff821fa444f032bb57e6643d24c76a604ae45a78af03ea16e61bf5"), looks := true }, kinds := [], alts := [], laidByText := true, laidKinds := [.data, .data, .data], laidTests := true, laidLooks := .later }
def PathWordsCardSaid : Prop := Claim7.holds Tryd.pinned (.plain (OpenSpec.ofChange pathWordsSpec)) pathWordsCard

/-- THE SECOND FORM's CARD OF 'orchlaw2.PruneTells'. -/
def pruneTellsUptoCard : Claim7 := { stood := { row := pruneTellsUptoRow, standIns := [], harness := (true, "72e269d5e6ff821fa444f032bb57e6643d24c76a604ae45a78af03ea16e61bf5"), looks := true }, kinds := [], alts := [], laidByText := true, laidKinds := [.handle], laidTests := true, laidLooks := .later }
def PruneTellsUptoCardSaid : Prop := Claim7.holds Tryd.pinned (.plain (OpenSpec.upto pruneTellsSpec)) pruneTellsUptoCard

/-- THE SECOND FORM's CARD OF 'orchlaw2.DifferTells'. -/
def differTellsUptoCard : Claim7 := { stood := { row := differTellsUptoRow, standIns := [], harness := (true, "72e269d5e6ff821fa444f032bb57e6643d24c76a604ae45a78af03ea16e61bf5"), looks := true }, kinds := [], alts := [], laidByText := true, laidKinds := [.handle], laidTests := true, laidLooks := .later }
def DifferTellsUptoCardSaid : Prop := Claim7.holds Tryd.pinned (.plain (OpenSpec.upto differTellsSpec)) differTellsUptoCard

/-- THE SECOND FORM's CARD OF 'orchlaw2.DifferGroves'. -/
def differGrovesUptoCard : Claim7 := { stood := { row := differGrovesUptoRow, standIns := [], harness := (true, "72e269d5e6ff821fa444f032bb57e6643d24c76a604ae45a78af03ea16e61bf5"), looks := true }, kinds := [], alts := [], laidByText := true, laidKinds := [.handle], laidTests := true, laidLooks := .later }
def DifferGrovesUptoCardSaid : Prop := Claim7.holds Tryd.pinned (.plain (OpenSpec.upto differGrovesSpec)) differGrovesUptoCard

/-- THE SECOND FORM's CARD OF 'orchlaw4.PathWords'. -/
def pathWordsUptoCard : Claim7 := { stood := { row := pathWordsUptoRow, standIns := [], harness := (true, "72e269d5e6ff821fa444f032bb57e6643d24c76a604ae45a78af03ea16e61bf5"), looks := true }, kinds := [], alts := [], laidByText := true, laidKinds := [.data, .data, .data], laidTests := true, laidLooks := .later }
def PathWordsUptoCardSaid : Prop := Claim7.holds Tryd.pinned (.plain (OpenSpec.upto pathWordsSpec)) pathWordsUptoCard
end Rows
end Go.Proofs.YtefkjpcgcgofgaaDoor
