/- Part 29 of what LawWeighNeeds needs: ArgsM. Conditions: as each lemma names. -/
import Derived.Test.YtopncifebldklaaPkWeighNeeds28
import Derived.Test.YtopncifebldklaaPkWeighNeeds16
/- From an argument's reading to the words of the walks: a slice of samples. Conditions: none. -/
namespace Go.Proofs.Ytopncifebldklaa
set_option linter.unusedVariables false
set_option linter.unusedSimpArgs false
open Go.RowKit Go.ChangeShapes Go.WideShapes Go.Deep Go.Joins

set_option maxRecDepth 100000 in
theorem arg_samples {H : Type} {enc : TypeId × Value → H} {w : World} {sp : Nat → Bool} {A : Option Addr} {n c : Nat} {d : DataW H} {p : List MemPlace}
    (h : DataW.Trod enc Try.prog w 0 sp true 27 (.slice A n c) d p) : ∃ ss : List Sm, MReads w w.heap.size A n ss ∧ n ≤ maxLen ∧ n ≤ c ∧ (A = none → c = 0) := by
  obtain ⟨fuel, hf⟩ := h
  rcases open_slice_fields Try.underlying27 Try.underlying46 (by kernel_rfl) (by kernel_rfl) hf with ⟨hcs, _⟩ | ⟨a, len, cap, m, D, Pl, hcs, _, hl, hm, hmm, hx, hi⟩
  · simp [Value.cells] at hcs
    obtain ⟨rfl, rfl, rfl⟩ := hcs
    exact ⟨[], ⟨⟨by simp, fun h0 => absurd h0 (by omega)⟩, fun r hr => by cases hr⟩, Nat.zero_le _, Nat.le_refl _, fun _ => rfl⟩
  · simp [Value.cells] at hcs
    obtain ⟨rfl, rfl, rfl⟩ := hcs
    have hmn : n ≤ m := by rw [hmm]; split <;> omega
    have key : ∀ i, i < n → ∃ x : Sm, (∀ (r : Nat) u, r < 2 → (Sm.cells x)[r]? = some u → w.cell? (a.add (i * 2 + r)) = some u) ∧ SmOk w w.heap.size x := by
      intro i hin
      obtain ⟨ys, q, _, _, _, hfl⟩ := hi i (by omega)
      obtain ⟨v0, y0, c0, _, t0⟩ := hfl 0 _ rfl
      obtain ⟨v1, y1, c1, _, t1⟩ := hfl 1 _ rfl
      obtain ⟨x1, e1, _⟩ := DataW.trod_int Try.underlying3 t1
      simp at e1
      subst e1
      obtain ⟨A0, n0, k0, rfl, _, _⟩ := slice_form Try.underlying22 t0
      obtain ⟨l0, g1, g2, _⟩ := arg_ints (sp := sp) (c := k0) Try.underlying22 Try.underlying3 (by kernel_rfl) ⟨_, t0⟩
      refine ⟨⟨A0, n0, k0, l0, x1⟩, fun r u hr hu => ?_, ⟨g1, g2⟩⟩
      match r, hr with
      | 0, _ => simp [Sm.cells] at hu; subst hu; exact c0
      | 1, _ => simp [Sm.cells] at hu; subst hu; exact c1
    obtain ⟨ts, hlen2, hts⟩ := choose_list (n := n) key
    refine ⟨ts, ⟨reads_flat Sm.cells (fun _ => rfl) (by omega) _ hlen2 ?_ (fun i x hx => (hts i x hx).1), fun r hr => ?_⟩, by omega, hl, fun e => by cases e⟩
    · intro hn
      obtain ⟨x, hx, _⟩ := key 0 hn
      have := cell_lt (hx 0 _ (by omega) rfl)
      rwa [block_of_add] at this
    · obtain ⟨i, hi'⟩ := List.mem_iff_getElem?.1 hr
      exact (hts i r hi').2
end Go.Proofs.Ytopncifebldklaa
