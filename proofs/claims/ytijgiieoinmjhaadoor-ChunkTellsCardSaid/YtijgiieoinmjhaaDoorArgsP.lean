/- From an argument's reading to the words of the walks: a slice of parts. Conditions: none. -/
import Derived.Test.YtijgiieoinmjhaaDoorArgs2
import Derived.Test.YtijgiieoinmjhaaDoorChunk
namespace Go.Proofs.YtijgiieoinmjhaaDoor
set_option linter.unusedVariables false
set_option linter.unusedSimpArgs false
open Go.RowKit Go.ChangeShapes Go.WideShapes Go.Deep

theorem arg_parts {H : Type} {enc : TypeId × Value → H} {w : World} {sp : Nat → Bool} {A : Option Addr} {n c : Nat} {d : DataW H} {p : List MemPlace}
    (h : DataW.Trod enc Tryd.prog w 0 sp true 24 (.slice A n c) d p) : ∃ t : List Pt, PReads w w.heap.size A n t ∧ n ≤ maxLen ∧ n ≤ c ∧ (A = none → c = 0) := by
  obtain ⟨fuel, hf⟩ := h
  rcases open_slice_fields Tryd.underlying24 Tryd.underlying30 (by kernel_rfl) (by kernel_rfl) hf with ⟨hcs, _⟩ | ⟨a, len, cap, m, D, Pl, hcs, _, hl, hm, hmm, _, hi⟩
  · simp [Value.cells] at hcs
    obtain ⟨rfl, rfl, rfl⟩ := hcs
    exact ⟨[], ⟨by simp, fun h0 => absurd h0 (by omega)⟩, Nat.zero_le _, Nat.le_refl _, fun _ => rfl⟩
  · simp [Value.cells] at hcs
    obtain ⟨rfl, rfl, rfl⟩ := hcs
    have hmn : n ≤ m := by rw [hmm]; split <;> omega
    have key : ∀ i, i < n → ∃ x : Pt, ∀ (r : Nat) u, r < 2 → (Pt.cells x)[r]? = some u → w.cell? (a.add (i * 2 + r)) = some u := by
      intro i hin
      obtain ⟨ys, q, _, _, _, hfl⟩ := hi i (by omega)
      obtain ⟨v0, y0, c0, _, t0⟩ := hfl 0 _ rfl
      obtain ⟨v1, y1, c1, _, t1⟩ := hfl 1 _ rfl
      obtain ⟨x0, e0, _⟩ := DataW.trod_int Tryd.underlying3 t0
      obtain ⟨x1, e1, _⟩ := DataW.trod_int Tryd.underlying3 t1
      simp at e0 e1
      subst e0 e1
      refine ⟨⟨x0, x1⟩, fun r u hr hu => ?_⟩
      match r, hr with
      | 0, _ => simp [Pt.cells] at hu; subst hu; exact c0
      | 1, _ => simp [Pt.cells] at hu; subst hu; exact c1
    have key2 : ∀ i, ∃ x : Pt, i < n → ∀ (r : Nat) u, r < 2 → (Pt.cells x)[r]? = some u → w.cell? (a.add (i * 2 + r)) = some u := by
      intro i
      by_cases hin : i < n
      · obtain ⟨x, hx⟩ := key i hin
        exact ⟨x, fun _ => hx⟩
      · exact ⟨⟨0, 0⟩, fun h => absurd h hin⟩
    refine ⟨(List.range n).map (fun i => Classical.choose (key2 i)), reads_flat Pt.cells (fun _ => rfl) (by omega) _ (by simp) ?_ ?_, by omega, hl, fun h => by cases h⟩
    · intro hn
      obtain ⟨x, hx⟩ := key 0 hn
      have := cell_lt (hx 0 _ (by omega) rfl)
      rwa [block_of_add] at this
    · intro i x hx r u hr hu
      simp only [List.getElem?_map, Option.map_eq_some_iff] at hx
      obtain ⟨j, hj, rfl⟩ := hx
      obtain ⟨hjl, rfl⟩ := List.getElem?_eq_some_iff.1 hj
      simp only [List.getElem_range] at hu
      exact Classical.choose_spec (key2 i) (by simpa using hjl) r u hr hu
end Go.Proofs.YtijgiieoinmjhaaDoor
