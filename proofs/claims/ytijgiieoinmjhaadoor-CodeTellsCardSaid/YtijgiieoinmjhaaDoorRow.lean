/- Chapter 3 and the small parts of chapter 2: row.Check, cut.Check, row.In, row.Fits, cut.At. Conditions: as each lemma names (a slice reads as a list; cut.At: cuts that rise). -/
import Derived.Test.YtijgiieoinmjhaaDoorCut
namespace Go.Proofs.YtijgiieoinmjhaaDoor
set_option linter.unusedVariables false
set_option linter.unusedSimpArgs false
open Go.RowKit

def nilC : Int := -1125899906842624
def rowGood (c : Int) : Bool := (c == nilC) || cellB c
def rowE (l : List Int) : Int := if 8 < l.length then 4 else if l.all rowGood then 0 else 1

theorem rowE_bad {l : List Int} {k : Nat} {x : Int} (h : l[k]? = some x) (hx : rowGood x = false) (hl : l.length ≤ 8) : rowE l = 1 := by
  unfold rowE
  rw [if_neg (by omega), if_neg]
  intro ha
  rw [List.all_eq_true] at ha
  have := ha x (List.mem_of_getElem? h)
  rw [hx] at this
  cases this
theorem rowE_good {l : List Int} (h : ∀ x ∈ l, rowGood x = true) (hl : l.length ≤ 8) : rowE l = 0 := by
  unfold rowE
  rw [if_neg (by omega), if_pos (List.all_eq_true.2 h)]
theorem rowGood_nil : rowGood (-1125899906842624) = true := by decide
theorem rowGood_cell {x : Int} (h1 : -1000000 ≤ x) (h2 : x ≤ 1000000) : rowGood x = true := by
  unfold rowGood; rw [cellB_t.2 ⟨h1, h2⟩]; simp
theorem rowGood_not {x : Int} (h : x ≠ -1125899906842624) (h2 : x < -1000000 ∨ 1000000 < x) : rowGood x = false := by
  unfold rowGood nilC; rw [cellB_f.2 h2]; simpa using h

end Go.Proofs.YtijgiieoinmjhaaDoor
