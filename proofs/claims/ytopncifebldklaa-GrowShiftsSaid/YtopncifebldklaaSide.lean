/- Chapter 5: path.Wide, path.Side. Conditions: as each lemma names. -/
import Derived.Test.YtopncifebldklaaSpan
namespace Go.Proofs.Ytopncifebldklaa
set_option linter.unusedVariables false
set_option linter.unusedSimpArgs false
open Go.RowKit

def sideS (s : Sp) (c : Int) (less left : Bool) : Sp := if left then ⟨s.low, min s.high (c - 1), s.ab && (less == left)⟩ else ⟨max s.low c, s.high, s.ab && (less == left)⟩
def sideL (l : List Sp) (n : Nd) (left : Bool) : List Sp := match l[n.f.toNat]? with | none => l | some s => l.set n.f.toNat (sideS s n.c n.less left)

theorem SReads.set_ {w w' : World} {B n g o k : Nat} {l : List Sp} (h : SReads w B (some ⟨g, o, none⟩) n l) (hk : k < n) (s : Sp)
    (hsame : ∀ j, j ≠ k * 3 → j ≠ k * 3 + 1 → j ≠ k * 3 + 2 → w'.cell? ⟨g, o + j, none⟩ = w.cell? ⟨g, o + j, none⟩)
    (c0 : w'.cell? ⟨g, o + k * 3, none⟩ = some (.int .i64 s.low)) (c1 : w'.cell? ⟨g, o + (k * 3 + 1), none⟩ = some (.int .i64 s.high)) (c2 : w'.cell? ⟨g, o + (k * 3 + 2), none⟩ = some (.bool s.ab)) :
    SReads w' B (some ⟨g, o, none⟩) n (l.set k s) := by
  have hl := h.len
  obtain ⟨_, _, e, hb, hc⟩ := Reads.spot h (by omega) (by omega)
  cases e
  refine ⟨by rw [flatMap_len Sp.cells 3 (fun _ => rfl), List.length_set, hl], fun _ => ⟨_, rfl, hb, fun j u hu => ?_⟩⟩
  have hj : j < n * 3 := by
    have := (List.getElem?_eq_some_iff.1 hu).1
    rw [flatMap_len Sp.cells 3 (fun _ => rfl), List.length_set, hl] at this
    exact this
  obtain ⟨k', r, hr, rfl⟩ : ∃ k' r, r < 3 ∧ j = k' * 3 + r := ⟨j / 3, j % 3, Nat.mod_lt _ (by omega), by omega⟩
  have hk' : k' < n := by omega
  have hadd : (⟨g, o, none⟩ : Addr).add (k' * 3 + r) = ⟨g, o + (k' * 3 + r), none⟩ := by
    unfold Addr.add
    split
    · rename_i e; rw [e]; rfl
    · rfl
  rw [hadd]
  by_cases he : k' = k
  · subst he
    rw [flatMap_at Sp.cells 3 (fun _ => rfl) (l.set k' s) k' r s (by rw [List.getElem?_set_self (by omega)]) hr] at hu
    match r, hr with
    | 0, _ => simp [Sp.cells] at hu; subst hu; exact c0
    | 1, _ => simp [Sp.cells] at hu; subst hu; exact c1
    | 2, _ => simp [Sp.cells] at hu; subst hu; exact c2
  · have hs : l[k']? = some l[k'] := List.getElem?_eq_getElem (by omega)
    rw [flatMap_at Sp.cells 3 (fun _ => rfl) (l.set k s) k' r l[k'] (by rw [List.getElem?_set_ne (by omega)]; exact hs) hr] at hu
    rw [hsame _ (by omega) (by omega) (by omega)]
    refine hc _ u ?_
    rw [flatMap_at Sp.cells 3 (fun _ => rfl) l k' r l[k'] hs hr]
    exact hu

theorem sp_cells_one (l : List Sp) : ∀ u ∈ l.flatMap Sp.cells, u.oneCell' = true := by
  intro u hu
  obtain ⟨s, _, h⟩ := List.mem_flatMap.1 hu
  simp [Sp.cells] at h
  rcases h with rfl | rfl | rfl <;> rfl

theorem two_other {w : World} {g a b : Nat} {u v : Value} {j : Nat} (h1 : j ≠ a) (h2 : j ≠ b) : ((w.setCell ⟨g, a, none⟩ u).setCell ⟨g, b, none⟩ v).drew.cell? ⟨g, j, none⟩ = w.cell? ⟨g, j, none⟩ := by
  show ((w.setCell ⟨g, a, none⟩ u).setCell ⟨g, b, none⟩ v).cell? ⟨g, j, none⟩ = _
  rw [World.cell?_setCell_other _ _ _ _ (by intro e; injection e; omega), World.cell?_setCell_other _ _ _ _ (by intro e; injection e; omega)]
theorem two_first {w : World} {g a b : Nat} {u v x : Value} (h : a ≠ b) (hx : w.cell? ⟨g, a, none⟩ = some x) : ((w.setCell ⟨g, a, none⟩ u).setCell ⟨g, b, none⟩ v).drew.cell? ⟨g, a, none⟩ = some u := by
  show ((w.setCell ⟨g, a, none⟩ u).setCell ⟨g, b, none⟩ v).cell? ⟨g, a, none⟩ = _
  rw [World.cell?_setCell_other _ _ _ _ (by intro e; injection e; omega)]
  exact World.cell?_setCell_same' _ _ _ (by rw [hx]; rfl)
theorem two_last {w : World} {g a b : Nat} {u v x : Value} (h : b ≠ a) (hx : w.cell? ⟨g, b, none⟩ = some x) : ((w.setCell ⟨g, a, none⟩ u).setCell ⟨g, b, none⟩ v).drew.cell? ⟨g, b, none⟩ = some v := by
  show ((w.setCell ⟨g, a, none⟩ u).setCell ⟨g, b, none⟩ v).cell? ⟨g, b, none⟩ = _
  exact World.cell?_setCell_same' _ _ _ (by rw [World.cell?_setCell_other _ _ _ _ (by intro e; injection e; omega), hx]; rfl)

end Go.Proofs.Ytopncifebldklaa
