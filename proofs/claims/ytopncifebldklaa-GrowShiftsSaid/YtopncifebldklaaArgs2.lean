/- From an argument's reading to the words of the walks: a slice of nodes. Conditions: none. -/
import Derived.Test.YtopncifebldklaaArgs
import Derived.Test.YtopncifebldklaaTree
import Derived.Deep.Slices
namespace Go.Proofs.Ytopncifebldklaa
set_option linter.unusedVariables false
set_option linter.unusedSimpArgs false
open Go.RowKit Go.ChangeShapes Go.WideShapes Go.Deep

theorem reads_flat {α : Type} {w : World} {size n : Nat} {a : Addr} (f : α → List Value) (hf : ∀ x, (f x).length = size) (hs : 0 < size) (l : List α) (hl : l.length = n) (hb : 0 < n → a.block < w.heap.size)
    (h : ∀ (i : Nat) x, l[i]? = some x → ∀ (r : Nat) u, r < size → (f x)[r]? = some u → w.cell? (a.add (i * size + r)) = some u) : Reads w w.heap.size size (some a) n (l.flatMap f) := by
  refine ⟨by rw [flatMap_len f size hf, hl], fun hn => ⟨a, rfl, hb hn, fun j u hu => ?_⟩⟩
  have hj : j < n * size := by
    have := (List.getElem?_eq_some_iff.1 hu).1
    rwa [flatMap_len f size hf, hl] at this
  have hi : j / size < n := Nat.div_lt_of_lt_mul (by rwa [Nat.mul_comm])
  have hx : l[j / size]? = some l[j / size] := List.getElem?_eq_getElem (by omega)
  have hr : j % size < size := Nat.mod_lt _ hs
  have e : j / size * size + j % size = j := by rw [Nat.mul_comm]; exact Nat.div_add_mod j size
  have := flatMap_at f size hf l (j / size) (j % size) _ hx hr
  rw [e, hu] at this
  have := h _ _ hx _ u hr this.symm
  rwa [e] at this

theorem arg_nodes {H : Type} {enc : TypeId × Value → H} {w : World} {sp : Nat → Bool} {A : Option Addr} {n c : Nat} {d : DataW H} {p : List MemPlace}
    (h : DataW.Trod enc Try.prog w 0 sp true 26 (.slice A n c) d p) : ∃ t : List Nd, NReads w w.heap.size A n t ∧ n ≤ maxLen ∧ n ≤ c := by
  obtain ⟨fuel, hf⟩ := h
  rcases open_slice_fields Try.underlying26 Try.underlying29 (by kernel_rfl) (by kernel_rfl) hf with ⟨hcs, _⟩ | ⟨a, len, cap, m, D, Pl, hcs, _, hl, hm, hmm, _, hi⟩
  · simp [Value.cells] at hcs
    obtain ⟨rfl, rfl, rfl⟩ := hcs
    exact ⟨[], ⟨by simp, fun h0 => absurd h0 (by omega)⟩, Nat.zero_le _, Nat.le_refl _⟩
  · simp [Value.cells] at hcs
    obtain ⟨rfl, rfl, rfl⟩ := hcs
    have hmn : n ≤ m := by rw [hmm]; split <;> omega
    have key : ∀ i, i < n → ∃ x : Nd, ∀ (r : Nat) u, r < 6 → (Nd.cells x)[r]? = some u → w.cell? (a.add (i * 6 + r)) = some u := by
      intro i hin
      obtain ⟨ys, q, _, _, _, hfl⟩ := hi i (by omega)
      obtain ⟨v0, y0, c0, _, t0⟩ := hfl 0 _ rfl
      obtain ⟨v1, y1, c1, _, t1⟩ := hfl 1 _ rfl
      obtain ⟨v2, y2, c2, _, t2⟩ := hfl 2 _ rfl
      obtain ⟨v3, y3, c3, _, t3⟩ := hfl 3 _ rfl
      obtain ⟨v4, y4, c4, _, t4⟩ := hfl 4 _ rfl
      obtain ⟨v5, y5, c5, _, t5⟩ := hfl 5 _ rfl
      obtain ⟨x0, e0, _⟩ := DataW.trod_int Try.underlying3 t0
      obtain ⟨x1, e1, _⟩ := DataW.trod_int Try.underlying3 t1
      obtain ⟨x2, e2, _⟩ := DataW.trod_int Try.underlying3 t2
      obtain ⟨x3, e3, _⟩ := DataW.trod_int Try.underlying3 t3
      obtain ⟨x4, e4, _⟩ := DataW.trod_bool Try.underlying4 t4
      obtain ⟨x5, e5, _⟩ := DataW.trod_int Try.underlying3 t5
      simp at e0 e1 e2 e3 e4 e5
      subst e0 e1 e2 e3 e4 e5
      refine ⟨⟨x0, x1, x2, x3, x4, x5⟩, fun r u hr hu => ?_⟩
      match r, hr with
      | 0, _ => simp [Nd.cells] at hu; subst hu; exact c0
      | 1, _ => simp [Nd.cells] at hu; subst hu; exact c1
      | 2, _ => simp [Nd.cells] at hu; subst hu; exact c2
      | 3, _ => simp [Nd.cells] at hu; subst hu; exact c3
      | 4, _ => simp [Nd.cells] at hu; subst hu; exact c4
      | 5, _ => simp [Nd.cells] at hu; subst hu; exact c5
    have key2 : ∀ i, ∃ x : Nd, i < n → ∀ (r : Nat) u, r < 6 → (Nd.cells x)[r]? = some u → w.cell? (a.add (i * 6 + r)) = some u := by
      intro i
      by_cases hin : i < n
      · obtain ⟨x, hx⟩ := key i hin
        exact ⟨x, fun _ => hx⟩
      · exact ⟨⟨0, 0, 0, 0, false, 0⟩, fun h => absurd h hin⟩
    refine ⟨(List.range n).map (fun i => Classical.choose (key2 i)), reads_flat Nd.cells (fun _ => rfl) (by omega) _ (by simp) ?_ ?_, by omega, hl⟩
    · intro hn
      obtain ⟨x, hx⟩ := key 0 hn
      have := cell_lt (hx 0 _ (by omega) rfl)
      rwa [block_of_add] at this
    · intro i x hx r u hr hu
      simp only [List.getElem?_map, Option.map_eq_some_iff] at hx
      obtain ⟨j, hj, rfl⟩ := hx
      obtain ⟨hjl, rfl⟩ := List.getElem?_eq_some_iff.1 hj
      simp only [List.getElem_range] at hu
      exact Classical.choose_spec (key2 i) (by simpa using hjl) r u hr hu
end Go.Proofs.Ytopncifebldklaa
