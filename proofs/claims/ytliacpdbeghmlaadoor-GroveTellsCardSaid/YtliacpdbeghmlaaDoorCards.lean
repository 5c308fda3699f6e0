/-
  DERIVED. GIVEN WITH THE SEED: THE CARDS: each row of YtliacpdbeghmlaaDoorRows.lean that lists a variable, with what it lists TIED to the program's text (the seventh form; the later family's looks); each row that meets fmt, with fmt's text TOLD by the authors' own Lean function (tested against real Go, not proved from fmt's source: count such statements apart). THE CARD IS WHAT COUNTS. Prove the row's statement (the work); the ties are given (YtliacpdbeghmlaaDoorTie.lean); close each card by the builder's one call (the guide's Derived/Test/ToyasCard.lean, 'card_holds'). Laid BY PROGRAM, IN A SANDBOX (cutbox-door.mjs). By AI agents, Wed Nov 11 2026. No macro, syntax, notation, axiom, sorry.
-/
import Derived.Test.YtliacpdbeghmlaaDoorRows
import GoSem.ClaimSeven
namespace Go.Proofs.YtliacpdbeghmlaaDoor
namespace Rows

/-- THE TIED CARD OF 'orchlaw1.TreeTells'. -/
def treeTellsCard : Claim7 := { stood := { row := treeTellsRow, standIns := [], harness := (true, "68ed5e190864b23646505952a54f425525e59716c4f3fc1299c3a701df7ef38f"), looks := true }, kinds := [], alts := [], laidByText := true, laidKinds := [.handle], laidTests := true, laidLooks := .later }
def TreeTellsCardSaid : Prop := Claim7.holds Tryd.pinned (.plain (OpenSpec.ofChange treeTellsSpec)) treeTellsCard

/-- THE TIED CARD OF 'orchlaw1.GroveTells'. -/
def groveTellsCard : Claim7 := { stood := { row := groveTellsRow, standIns := [], harness := (true, "68ed5e190864b23646505952a54f425525e59716c4f3fc1299c3a701df7ef38f"), looks := true }, kinds := [], alts := [], laidByText := true, laidKinds := [.handle], laidTests := true, laidLooks := .later }
def GroveTellsCardSaid : Prop := Claim7.holds Tryd.pinned (.plain (OpenSpec.ofChange groveTellsSpec)) groveTellsCard

/-- THE SECOND FORM's CARD OF 'orchlaw1.TreeTells'. -/
def treeTellsUptoCard : Claim7 := { stood := { row := treeTellsUptoRow, standIns := [], harness := (true, "68ed5e190864b23646505952a54f425525e59716c4f3fc1299c3a701df7ef38f"), looks := true }, kinds := [], alts := [], laidByText := true, laidKinds := [.handle], laidTests := true, laidLooks := .later }
def TreeTellsUptoCardSaid : Prop := Claim7.holds Tryd.pinned (.plain (OpenSpec.upto treeTellsSpec)) treeTellsUptoCard

/-- THE SECOND FORM's CARD OF 'orchlaw1.GroveTells'. -/
def groveTellsUptoCard : Claim7 := { stood := { row := groveTellsUptoRow, standIns := [], harness := (true, "68ed5e190864b23646505952a54f425525e59716c4f3fc1299c3a701df7ef38f"), looks := true }, kinds := [], alts := [], laidByText := true, laidKinds := [.handle], laidTests := true, laidLooks := .later }
def GroveTellsUptoCardSaid : Prop := Claim7.holds Tryd.pinned (.plain (OpenSpec.upto groveTellsSpec)) groveTellsUptoCard
end Rows
end Go.Proofs.YtliacpdbeghmlaaDoor
