/- path.Wide, path.Pick. Conditions: as each lemma names. -/
import Derived.Test.YtopncifebldklaaLeaves
namespace Go.Proofs.Ytopncifebldklaa
set_option linter.unusedVariables false
set_option linter.unusedSimpArgs false
open Go.RowKit

def wideS : Sp := ⟨-1000000, 1000000, true⟩
def wideL (n : Nat) : List Sp := List.replicate n wideS
def pickS (s : Sp) : Int := if s.low ≤ s.high then s.low else -1125899906842624
def pickL (l : List Sp) : List Int := l.map pickS
theorem pick_next {l : List Sp} {k : Nat} {s : Sp} (h : l[k]? = some s) : pickL (l.take (k + 1)) = pickL (l.take k) ++ [pickS s] := by unfold pickL; rw [take_next h]; simp

def zeroS : Sp := ⟨0, 0, false⟩
theorem made_span (n : Nat) (hn : n ≤ 8) : madeCells (Value.agg #[.int .i64 0, .int .i64 0, .bool false]).cells (n * 3) = ((List.replicate n zeroS).flatMap Sp.cells).toArray := by
  rcases n with _ | _ | _ | _ | _ | _ | _ | _ | _ | n <;> first | omega | kernel_rfl
def wideK (n k : Nat) : List Sp := List.replicate k wideS ++ List.replicate (n - k) zeroS
theorem wideK_set {n k : Nat} (h : k < n) : (wideK n k).set k wideS = wideK n (k + 1) := by
  unfold wideK
  obtain ⟨m, hm⟩ : ∃ m, n - k = m + 1 := ⟨n - k - 1, by omega⟩
  rw [List.set_append_right _ _ (by simp), hm, show n - (k + 1) = m by omega, List.length_replicate, Nat.sub_self, List.replicate_succ, List.set_cons_zero, List.replicate_succ', List.append_assoc]
  rfl

theorem set3 {w : World} {g a : Nat} {u0 u1 u2 x0 x1 x2 : Value} (c0 : w.cell? ⟨g, a, none⟩ = some x0) (c1 : w.cell? ⟨g, a + 1, none⟩ = some x1) (c2 : w.cell? ⟨g, a + 2, none⟩ = some x2) :
    (∀ j, j ≠ a → j ≠ a + 1 → j ≠ a + 2 → (((w.setCell ⟨g, a, none⟩ u0).setCell ⟨g, a + 1, none⟩ u1).setCell ⟨g, a + 2, none⟩ u2).cell? ⟨g, j, none⟩ = w.cell? ⟨g, j, none⟩) ∧
    (((w.setCell ⟨g, a, none⟩ u0).setCell ⟨g, a + 1, none⟩ u1).setCell ⟨g, a + 2, none⟩ u2).cell? ⟨g, a, none⟩ = some u0 ∧
    (((w.setCell ⟨g, a, none⟩ u0).setCell ⟨g, a + 1, none⟩ u1).setCell ⟨g, a + 2, none⟩ u2).cell? ⟨g, a + 1, none⟩ = some u1 ∧
    (((w.setCell ⟨g, a, none⟩ u0).setCell ⟨g, a + 1, none⟩ u1).setCell ⟨g, a + 2, none⟩ u2).cell? ⟨g, a + 2, none⟩ = some u2 := by
  have N : ∀ (W : World) (i j : Nat) (u : Value), i ≠ j → (W.setCell ⟨g, i, none⟩ u).cell? ⟨g, j, none⟩ = W.cell? ⟨g, j, none⟩ := fun W i j u h => World.cell?_setCell_other _ _ _ _ (by intro e; injection e; omega)
  refine ⟨fun j h0 h1 h2 => ?_, ?_, ?_, ?_⟩
  · rw [N _ _ _ _ (by omega), N _ _ _ _ (by omega), N _ _ _ _ (by omega)]
  · rw [N _ _ _ _ (by omega), N _ _ _ _ (by omega)]; exact World.cell?_setCell_same' _ _ _ (by rw [c0]; rfl)
  · rw [N _ _ _ _ (by omega)]; exact World.cell?_setCell_same' _ _ _ (by rw [N _ _ _ _ (by omega), c1]; rfl)
  · exact World.cell?_setCell_same' _ _ _ (by rw [N _ _ _ _ (by omega), N _ _ _ _ (by omega), c2]; rfl)
end Go.Proofs.Ytopncifebldklaa
