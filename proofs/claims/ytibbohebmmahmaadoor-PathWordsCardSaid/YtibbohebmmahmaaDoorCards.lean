/-
  DERIVED. GIVEN WITH THE SEED: THE CARDS: each row of YtibbohebmmahmaaDoorRows.lean that lists a variable, with what it lists TIED to the program's text (the seventh form; the later family's looks); each row that meets fmt, with fmt's text TOLD by the authors' own Lean function (tested against real Go, not proved from fmt's source: count such statements apart). THE CARD IS WHAT COUNTS. Prove the row's statement (the work); the ties are given (YtibbohebmmahmaaDoorTie.lean); close each card by the builder's one call (the guide's Derived/Test/ToyasCard.lean, 'card_holds'). Laid BY PROGRAM, IN A SANDBOX (cutbox-door.mjs). By AI agents, Wed Nov 11 2026. No macro, syntax, notation, axiom, sorry.
-/
import Derived.Test.YtibbohebmmahmaaDoorRows
import GoSem.ClaimSeven
namespace Go.Proofs.YtibbohebmmahmaaDoor
namespace Rows

/-- THE TIED CARD OF 'orchlaw4.PathWords'. -/
def pathWordsCard : Claim7 := { stood := { row := pathWordsRow, standIns := [], harness := (true, "ec3864ef7f76853c0a53fbe439c7ca9b93d3b5c32a6ff555ea03bc00407b008e"), looks := false }, kinds := [], alts := [], laidByText := true, laidKinds := [.data, .data, .data], laidTests := true, laidLooks := .later }
def PathWordsCardSaid : Prop := Claim7.holds Tryd.pinned (.plain (OpenSpec.ofChange pathWordsSpec)) pathWordsCard

/-- THE SECOND FORM's CARD OF 'orchlaw4.PathWords'. -/
def pathWordsUptoCard : Claim7 := { stood := { row := pathWordsUptoRow, standIns := [], harness := (true, "ec3864ef7f76853c0a53fbe439c7ca9b93d3b5c32a6ff555ea03bc00407b008e"), looks := false }, kinds := [], alts := [], laidByText := true, laidKinds := [.data, .data, .data], laidTests := true, laidLooks := .later }
def PathWordsUptoCardSaid : Prop := Claim7.holds Tryd.pinned (.plain (OpenSpec.upto pathWordsSpec)) pathWordsUptoCard
end Rows
end Go.Proofs.YtibbohebmmahmaaDoor
