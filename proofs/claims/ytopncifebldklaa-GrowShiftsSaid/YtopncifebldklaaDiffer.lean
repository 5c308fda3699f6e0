/- differ.pairs: of each pair of leaves to which a row comes that differ, their spans. Conditions: as each lemma names. -/
import Derived.Test.YtopncifebldklaaPick
import Derived.Test.YtopncifebldklaaArgs
namespace Go.Proofs.Ytopncifebldklaa
set_option linter.unusedVariables false
set_option linter.unusedSimpArgs false
open Go.RowKit

def meets (a b : List Nd) (i : Nat) (q : Nat × List Sp) : Bool := anyB q.2 && (valAt a i != valAt b q.1)
def pairsAt (a b : List Nd) (p : Nat × List Sp) : List (List Sp) := if anyB p.2 then ((lv b b.length 0 p.2).filter (meets a b p.1)).map (·.2) else []
def pairsL (a b : List Nd) (n : Nat) : List (List Sp) := (lv a a.length 0 (wideL n)).flatMap (pairsAt a b)

theorem valAt_of {t : List Nd} {i : Nat} {x : Nd} (h : t[i]? = some x) : valAt t i = x.v := by unfold valAt; rw [h]

/-- a listener for spans -/
def SpanStep (T : World → Nat → Prop) (J : List (List Sp) → World → Prop) (F : FuncId) (caps : Array Value) (n : Nat) : Prop :=
  ∀ pre (l' : List Sp) (A' : Option Addr) (c' : Nat) (w : World), J pre w → SReads w w.heap.size A' n l' → (A' = none → c' = 0) → (∀ a, A' = some a → ¬ T w a.block) →
    Calls Try.prog F (#[.slice A' n c'] ++ caps) w (Hear T J (pre ++ [l']) w)

theorem pairsAt_fold (a b : List Nd) (i : Nat) (ys : List (Nat × List Sp)) (q : Nat × List Sp) :
    ((ys ++ [q]).filter (meets a b i)).map (·.2) = (ys.filter (meets a b i)).map (·.2) ++ if meets a b i q then [q.2] else [] := by
  rw [List.filter_append, List.map_append, List.filter_cons]
  split <;> simp

/-- a tree as Leaves wants it -/
structure Fit_ (t : List Nd) (n : Nat) : Prop where
  len0 : 0 < t.length
  len : t.length ≤ 63
  behind : Behind t
  asks : Asks t n
  cut : ∀ (i : Nat) x, t[i]? = some x → x.f ≠ -1 → -1000000 ≤ x.c ∧ x.c ≤ 1000000

end Go.Proofs.Ytopncifebldklaa
