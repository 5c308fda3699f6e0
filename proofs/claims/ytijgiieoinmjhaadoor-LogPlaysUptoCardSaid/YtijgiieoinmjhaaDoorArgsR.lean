/- From an argument's reading to the words of the walks: a slice of slices of numbers. Conditions: none. -/
import Derived.Test.YtijgiieoinmjhaaDoorArgs
import Derived.Test.YtijgiieoinmjhaaDoorNsRows
import Derived.Deep.Slices
namespace Go.Proofs.YtijgiieoinmjhaaDoor
set_option linter.unusedVariables false
set_option linter.unusedSimpArgs false
open Go.RowKit Go.ChangeShapes Go.WideShapes Go.Deep Go.Joins

theorem choose_listR {α : Type} [Inhabited α] {n : Nat} {P : Nat → α → Prop} (h : ∀ i, i < n → ∃ x, P i x) : ∃ l : List α, l.length = n ∧ ∀ (i : Nat) x, l[i]? = some x → P i x := by
  have key : ∀ i, ∃ x : α, i < n → P i x := fun i => by
    by_cases hin : i < n
    · obtain ⟨x, hx⟩ := h i hin; exact ⟨x, fun _ => hx⟩
    · exact ⟨default, fun h => absurd h hin⟩
  refine ⟨(List.range n).map (fun i => Classical.choose (key i)), by simp, fun i x hx => ?_⟩
  simp only [List.getElem?_map, Option.map_eq_some_iff] at hx
  obtain ⟨j, hj, rfl⟩ := hx
  obtain ⟨hjl, rfl⟩ := List.getElem?_eq_some_iff.1 hj
  simp only [List.getElem_range]
  exact Classical.choose_spec (key i) (by simpa using hjl)
/-- a slice's cell: its form, and nil's -/
theorem slice_formR {H : Type} {enc : TypeId × Value → H} {P : Program} {w : World} {base : Nat} {sp : Nat → Bool} {held : Bool} {t e : TypeId} {fuel : Nat} {v : Value} {x : DataW H × List MemPlace} (ht : P.underlying t = some (.slice e)) (h : DataW.trod enc P w base sp held fuel t [v] = some x) :
    ∃ A n c, v = .slice A n c ∧ (A = none → c = 0) ∧ n ≤ c := by
  rcases open_slice ht h with ⟨h0, _⟩ | ⟨a, len, cap, m, k, D, Pl, hcs, _, hl, _⟩
  · injection h0 with h0; subst h0; exact ⟨none, 0, 0, rfl, fun _ => rfl, Nat.le_refl _⟩
  · injection hcs with hcs; subst hcs; exact ⟨some a, len, cap, rfl, (fun e => by cases e), hl⟩

/-- an argument that is a slice of slices of numbers -/
structure NsArg (k : IntKind) (W : World) (A : Option Addr) (n c : Nat) (l : List Ns) : Prop where
  reads : NsReads k W W.heap.size A n l
  len : n ≤ maxLen
  cap : n ≤ c
  nil : A = none → c = 0
theorem arg_rows {H : Type} {enc : TypeId × Value → H} {P : Program} {w : World} {sp : Nat → Bool} {t t1 e : TypeId} {k : IntKind} {A : Option Addr} {n c : Nat} {d : DataW H} {p : List MemPlace}
    (ht : P.underlying t = some (.slice t1)) (ht1 : P.underlying t1 = some (.slice e)) (he : P.underlying e = some (.int k)) (hc1 : P.cellsOf t1 = 1) (hc : P.cellsOf e = 1) (h : DataW.Trod enc P w 0 sp true t (.slice A n c) d p) :
    ∃ ts : List Ns, NsArg k w A n c ts := by
  obtain ⟨fuel, h⟩ := h
  rcases open_slice ht h with ⟨hcs, _⟩ | ⟨a, len, cap, m, j, D, Pl, hcs, _, hl, hm, hmm, _, hi⟩
  · simp [Value.cells] at hcs
    obtain ⟨rfl, rfl, rfl⟩ := hcs
    exact ⟨[], ⟨⟨⟨by simp, fun h0 => absurd h0 (by omega)⟩, fun r hr => by cases hr⟩, Nat.zero_le _, Nat.le_refl _, fun _ => rfl⟩⟩
  · simp [Value.cells] at hcs
    obtain ⟨rfl, rfl, rfl⟩ := hcs
    have hmn : n ≤ m := by rw [hmm]; split <;> omega
    rw [hc1] at hi
    obtain ⟨ts, hlen, hts⟩ := choose_listR (n := n) (P := fun i (r : Ns) => w.cell? (a.add i) = some r.val ∧ NsOk k w w.heap.size r) (fun i hin => by
      obtain ⟨cs', hc', ht'⟩ := hi i (by omega)
      obtain ⟨_, hcl, hat⟩ := World.cells?_some hc'
      have h1 := hat 0 (by omega)
      obtain ⟨v, rfl⟩ : ∃ v, cs' = [v] := by
        match cs', hcl with
        | [v], _ => exact ⟨v, rfl⟩
      obtain ⟨A', n', c', rfl, hnil, hcap⟩ := slice_formR ht1 ht'
      obtain ⟨l, g1, g2, g3, g4⟩ := arg_nums (sp := sp) (c := c') ht1 he hc ⟨j, ht'⟩
      refine ⟨⟨A', n', c', l⟩, ?_, g1, g2, hcap, hnil, g4⟩
      have e : (a.add (i * 1)).add 0 = a.add i := by rw [add_of_add]; simp
      rw [e] at h1
      exact h1)
    refine ⟨ts, ⟨⟨⟨by simp [hlen], fun h0 => ⟨a, rfl, ?_, fun j u hu => ?_⟩⟩, fun r hr => ?_⟩, by omega, hl, fun e => by cases e⟩⟩
    · obtain ⟨t0, ht0⟩ : ∃ t0, ts[0]? = some t0 := ⟨ts[0]'(by omega), List.getElem?_eq_getElem _⟩
      have := cell_lt (hts 0 t0 ht0).1
      rwa [block_of_add] at this
    · rw [List.getElem?_map, Option.map_eq_some_iff] at hu
      obtain ⟨r, hr, rfl⟩ := hu
      exact (hts j r hr).1
    · obtain ⟨i, hi'⟩ := List.mem_iff_getElem?.1 hr
      exact (hts i r hi').2
end Go.Proofs.YtijgiieoinmjhaaDoor
