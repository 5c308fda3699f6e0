/-
  DERIVED. GIVEN WITH THE SEED: THE CARDS: each row of YtijgiieoinmjhaaDoorRows.lean that lists a variable, with what it lists TIED to the program's text (the seventh form; the later family's looks); each row that meets fmt, with fmt's text TOLD by the authors' own Lean function (tested against real Go, not proved from fmt's source: count such statements apart). THE CARD IS WHAT COUNTS. Prove the row's statement (the work); the ties are given (YtijgiieoinmjhaaDoorTie.lean); close each card by the builder's one call (the guide's Derived/Test/ToyasCard.lean, 'card_holds'). Laid BY PROGRAM, IN A SANDBOX (cutbox-door.mjs). By AI agents, Wed Nov 11 2026. No macro, syntax, notation, axiom, sorry.
-/
import Derived.Test.YtijgiieoinmjhaaDoorRows
import GoSem.ClaimSeven
namespace Go.Proofs.YtijgiieoinmjhaaDoor
namespace Rows

/-- THE TIED CARD OF 'orchlaw3.ChunkBack'. -/
def chunkBackCard : Claim7 := { stood := { row := chunkBackRow, standIns := [], harness := (true, "89498e68f18068643db30306501e34e5c2ecdd4b626417bfc9eef30981f0ceef"), looks := true }, kinds := [], alts := [], laidByText := true, laidKinds := [.handle], laidTests := true, laidLooks := .later }
def ChunkBackCardSaid : Prop := Claim7.holds Tryd.pinned (.plain (OpenSpec.ofChange chunkBackSpec)) chunkBackCard

/-- THE TIED CARD OF 'orchlaw3.ChunkTells'. -/
def chunkTellsCard : Claim7 := { stood := { row := chunkTellsRow, standIns := [], harness := (true, "89498e68f18068643db30306501e34e5c2ecdd4b626417bfc9eef30981f0ceef"), looks := true }, kinds := [], alts := [], laidByText := true, laidKinds := [.handle], laidTests := true, laidLooks := .later }
def ChunkTellsCardSaid : Prop := Claim7.holds Tryd.pinned (.plain (OpenSpec.ofChange chunkTellsSpec)) chunkTellsCard

/-- THE TIED CARD OF 'orchlaw4.LogStops'. -/
def logStopsCard : Claim7 := { stood := { row := logStopsRow, standIns := [], harness := (true, "89498e68f18068643db30306501e34e5c2ecdd4b626417bfc9eef30981f0ceef"), looks := true }, kinds := [], alts := [], laidByText := true, laidKinds := [.handle], laidTests := true, laidLooks := .later }
def LogStopsCardSaid : Prop := Claim7.holds Tryd.pinned (.plain (OpenSpec.ofChange logStopsSpec)) logStopsCard

/-- THE TIED CARD OF 'orchlaw3.LogPlays'. -/
def logPlaysCard : Claim7 := { stood := { row := logPlaysRow, standIns := [], harness := (true, "89498e68f18068643db30306501e34e5c2ecdd4b626417bfc9eef30981f0ceef"), looks := true }, kinds := [], alts := [], laidByText := true, laidKinds := [.handle], laidTests := true, laidLooks := .later }
def LogPlaysCardSaid : Prop := Claim7.holds Tryd.pinned (.plain (OpenSpec.ofChange logPlaysSpec)) logPlaysCard

/-- THE TIED CARD OF 'orchlaw3.CodeTells'. -/
def codeTellsCard : Claim7 := { stood := { row := codeTellsRow, standIns := [], harness := (true, "89498e68f18068643db30306501e34e5c2ecdd4b626417bfc9eef30981f0ceef"), looks := true }, kinds := [], alts := [], laidByText := true, laidKinds := [.handle], laidTests := true, laidLooks := .later }
def CodeTellsCardSaid : Prop := Claim7.holds Tryd.pinned (.plain (OpenSpec.ofChange codeTellsSpec)) codeTellsCard

/-- THE TIED CARD OF 'orchlaw3.CodeBack'. -/
def codeBackCard : Claim7 := { stood := { row := codeBackRow, standIns := [], harness := (true, "89498e68f18068643db30306501e34e5c2ecdd4b626417bfc9eef30981f0ceef"), looks := true }, kinds := [], alts := [], laidByText := true, laidKinds := [.handle], laidTests := true, laidLooks := .later }
def CodeBackCardSaid : Prop := Claim7.holds Tryd.pinned (.plain (OpenSpec.ofChange codeBackSpec)) codeBackCard

/-- THE SECOND FORM's CARD OF 'orchlaw3.ChunkBack'. -/
def chunkBackUptoCard : Claim7 := { stood := { row := chunkBackUptoRow, standIns := [], harness := (true, "89498e68f18068643db30306501e34e5c2ecdd4b626417bfc9eef30981f0ceef"), looks := true }, kinds := [], alts := [], laidByText := true, laidKinds := [.handle], laidTests := true, laidLooks := .later }
def ChunkBackUptoCardSaid : Prop := Claim7.holds Tryd.pinned (.plain (OpenSpec.upto chunkBackSpec)) chunkBackUptoCard

/-- THE SECOND FORM's CARD OF 'orchlaw3.ChunkTells'. -/
def chunkTellsUptoCard : Claim7 := { stood := { row := chunkTellsUptoRow, standIns := [], harness := (true, "89498e68f18068643db30306501e34e5c2ecdd4b626417bfc9eef30981f0ceef"), looks := true }, kinds := [], alts := [], laidByText := true, laidKinds := [.handle], laidTests := true, laidLooks := .later }
def ChunkTellsUptoCardSaid : Prop := Claim7.holds Tryd.pinned (.plain (OpenSpec.upto chunkTellsSpec)) chunkTellsUptoCard

/-- THE SECOND FORM's CARD OF 'orchlaw4.LogStops'. -/
def logStopsUptoCard : Claim7 := { stood := { row := logStopsUptoRow, standIns := [], harness := (true, "89498e68f18068643db30306501e34e5c2ecdd4b626417bfc9eef30981f0ceef"), looks := true }, kinds := [], alts := [], laidByText := true, laidKinds := [.handle], laidTests := true, laidLooks := .later }
def LogStopsUptoCardSaid : Prop := Claim7.holds Tryd.pinned (.plain (OpenSpec.upto logStopsSpec)) logStopsUptoCard

/-- THE SECOND FORM's CARD OF 'orchlaw3.LogPlays'. -/
def logPlaysUptoCard : Claim7 := { stood := { row := logPlaysUptoRow, standIns := [], harness := (true, "89498e68f18068643db30306501e34e5c2ecdd4b626417bfc9eef30981f0ceef"), looks := true }, kinds := [], alts := [], laidByText := true, laidKinds := [.handle], laidTests := true, laidLooks := .later }
def LogPlaysUptoCardSaid : Prop := Claim7.holds Tryd.pinned (.plain (OpenSpec.upto logPlaysSpec)) logPlaysUptoCard

/-- THE SECOND FORM's CARD OF 'orchlaw3.CodeTells'. -/
def codeTellsUptoCard : Claim7 := { stood := { row := codeTellsUptoRow, standIns := [], harness := (true, "89498e68f18068643db30306501e34e5c2ecdd4b626417bfc9eef30981f0ceef"), looks := true }, kinds := [], alts := [], laidByText := true, laidKinds := [.handle], laidTests := true, laidLooks := .later }
def CodeTellsUptoCardSaid : Prop := Claim7.holds Tryd.pinned (.plain (OpenSpec.upto codeTellsSpec)) codeTellsUptoCard

/-- THE SECOND FORM's CARD OF 'orchlaw3.CodeBack'. -/
def codeBackUptoCard : Claim7 := { stood := { row := codeBackUptoRow, standIns := [], harness := (true, "89498e68f18068643db30306501e34e5c2ecdd4b626417bfc9eef30981f0ceef"), looks := true }, kinds := [], alts := [], laidByText := true, laidKinds := [.handle], laidTests := true, laidLooks := .later }
def CodeBackUptoCardSaid : Prop := Claim7.holds Tryd.pinned (.plain (OpenSpec.upto codeBackSpec)) codeBackUptoCard
end Rows
end Go.Proofs.YtijgiieoinmjhaaDoor
