/- Chapter 5's spans: path.Some, path.Any, path.Wide, path.Side, slices.Clone of spans. Conditions: as each lemma names. -/
import Derived.Test.YtopncifebldklaaRow2
import Derived.Test.YtopncifebldklaaTree
import Derived.Test.YtopncifebldklaaTreeMath
import Derived.Test.YtopncifebldklaaCodeRow
namespace Go.Proofs.Ytopncifebldklaa
set_option linter.unusedVariables false
set_option linter.unusedSimpArgs false
open Go.RowKit

def someB (s : Sp) : Bool := decide (s.low ≤ s.high) || s.ab
def anyB (l : List Sp) : Bool := l.all someB

def badAtS : List Sp → Nat → Int
  | [], _ => -1
  | s :: r, k => if someB s then badAtS r (k + 1) else (k : Int)
theorem badAtS_any : ∀ (l : List Sp) (k : Nat), (badAtS l k < 0 ↔ anyB l = true) := by
  intro l
  induction l with
  | nil => intro k; simp [badAtS, anyB]
  | cons s r ih =>
    intro k
    rw [badAtS]
    by_cases h : someB s = true
    · rw [if_pos h, ih (k + 1)]; simp [anyB, h]
    · rw [if_neg h]; simp [anyB, h]
theorem badAtS_drop {l : List Sp} {k : Nat} {s : Sp} (h : l[k]? = some s) : badAtS (l.drop k) k = if someB s then badAtS (l.drop (k + 1)) (k + 1) else (k : Int) := by
  have : l.drop k = s :: l.drop (k + 1) := by
    obtain ⟨hk, e⟩ := List.getElem?_eq_some_iff.1 h
    rw [List.drop_eq_getElem_cons hk, e]
  rw [this, badAtS]

end Go.Proofs.Ytopncifebldklaa
