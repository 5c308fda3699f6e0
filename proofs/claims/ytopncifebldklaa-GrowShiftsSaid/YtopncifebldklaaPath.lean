/- path.Path: the way of a row. Conditions: arguments read as lists. -/
import Derived.Test.YtopncifebldklaaTreeMath
namespace Go.Proofs.Ytopncifebldklaa
set_option linter.unusedVariables false
set_option linter.unusedSimpArgs false
open Go.RowKit

/-- the nodes behind a node on the way of a row -/
def wayFrom (t : List Nd) (row : List Int) : Nat → Nat → List Int
  | 0, _ => []
  | k + 1, i => match t[i]? with
    | some n => if n.f = -1 then [] else nextOf n (cellAt row n.f) :: wayFrom t row k (nextOf n (cellAt row n.f)).toNat
    | none => []
theorem wayFrom_leaf {t : List Nd} {row : List Int} {k i : Nat} {n : Nd} (h : t[i]? = some n) (hf : n.f = -1) : wayFrom t row k i = [] := by
  cases k with
  | zero => rfl
  | succ k => simp only [wayFrom, h, hf, if_true]
theorem wayFrom_step {t : List Nd} {row : List Int} {k i : Nat} {n : Nd} (h : t[i]? = some n) (hf : n.f ≠ -1) : wayFrom t row (k + 1) i = nextOf n (cellAt row n.f) :: wayFrom t row k (nextOf n (cellAt row n.f)).toNat := by
  simp only [wayFrom, h, hf, if_false]
theorem wayFrom_len {t : List Nd} {row : List Int} (hb : Behind t) : ∀ (k i : Nat), i < t.length → (wayFrom t row k i).length ≤ dep t i := by
  intro k
  induction k with
  | zero => intro i _; exact Nat.zero_le _
  | succ k ih =>
    intro i hi
    have hn : t[i]? = some t[i] := List.getElem?_eq_getElem hi
    by_cases hf : (t[i]).f = -1
    · rw [wayFrom_leaf hn hf]; exact Nat.zero_le _
    · obtain ⟨a, b, c, d⟩ := hb i _ hn hf
      rw [wayFrom_step hn hf, List.length_cons, dep_at hn (fun _ => a) (fun _ => c), if_neg hf]
      have e : nextOf t[i] (cellAt row (t[i]).f) = (t[i]).l ∨ nextOf t[i] (cellAt row (t[i]).f) = (t[i]).r := by
        unfold nextOf; split
        · exact .inl rfl
        · exact .inr rfl
      rcases e with e | e
      · rw [e]
        have := ih (t[i]).l.toNat (by omega)
        have := Nat.le_max_left (dep t (t[i]).l.toNat) (dep t (t[i]).r.toNat)
        omega
      · rw [e]
        have := ih (t[i]).r.toNat (by omega)
        have := Nat.le_max_right (dep t (t[i]).l.toNat) (dep t (t[i]).r.toNat)
        omega
def pathV (t : List Nd) (row : List Int) : List Int := if readyE t row = 0 then 0 :: wayFrom t row t.length 0 else []
def PathPost (t : List Nd) (row : List Int) (w : World) (e : Ending) (w' : World) : Prop :=
  ∃ v, e = .returned (.tuple #[v, errV (readyE t row)]) ∧ w'.ownsRow w.heap.size 3 1 v (pathV t row).length ((pathV t row).map (Value.int .i64)) ∧ Below w.heap.size w w'

end Go.Proofs.Ytopncifebldklaa
