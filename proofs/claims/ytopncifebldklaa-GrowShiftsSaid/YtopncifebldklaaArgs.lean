/- From an argument's reading to the words of the walks: slices of numbers. Conditions: none. -/
import Derived.Test.YtopncifebldklaaBase
import Derived.OpenShut
namespace Go.Proofs.Ytopncifebldklaa
set_option linter.unusedVariables false
set_option linter.unusedSimpArgs false
open Go.RowKit Go.ChangeShapes Go.WideShapes

theorem cell_lt {w : World} {a : Addr} {v : Value} (h : w.cell? a = some v) : a.block < w.heap.size := by
  unfold World.cell? at h
  split at h
  · rename_i c _ _ hh
    exact (Array.getElem?_eq_some_iff.1 hh).1
  · cases h

theorem arg_nums {H : Type} {enc : TypeId × Value → H} {P : Program} {w : World} {sp : Nat → Bool} {t e : TypeId} {k : IntKind} {A : Option Addr} {n c : Nat} {d : DataW H} {p : List MemPlace}
    (ht : P.underlying t = some (.slice e)) (he : P.underlying e = some (.int k)) (hc : P.cellsOf e = 1) (h : DataW.Trod enc P w 0 sp true t (.slice A n c) d p) :
    ∃ l : List Int, Reads w w.heap.size 1 A n (l.map (Value.int k)) ∧ n ≤ maxLen ∧ n ≤ c ∧ ∀ x ∈ l, (Lit.int k x).wf = true := by
  obtain ⟨fuel, hf⟩ := h
  rcases open_ints ht he hc hf with ⟨hcs, _⟩ | ⟨x, l, c', zs, hcs, _, hl, hm, hz, _, hcell, hwz⟩
  · simp [Value.cells] at hcs
    obtain ⟨rfl, rfl, rfl⟩ := hcs
    exact ⟨[], ⟨by simp, fun h0 => absurd h0 (by omega)⟩, Nat.zero_le _, Nat.le_refl _, by simp⟩
  · simp [Value.cells] at hcs
    obtain ⟨rfl, rfl, rfl⟩ := hcs
    have hzn : n ≤ zs.length := by rw [hz]; split <;> omega
    have hlen : (zs.take n).length = n := by rw [List.length_take]; omega
    refine ⟨zs.take n, ⟨by rw [List.length_map, hlen]; omega, fun h0 => ⟨x, rfl, ?_, ?_⟩⟩, by omega, hl, fun y hy => hwz y (List.mem_of_mem_take hy)⟩
    · have := cell_lt (hcell 0 (by omega))
      rwa [block_of_add] at this
    · intro j u hu
      rw [List.getElem?_map, Option.map_eq_some_iff] at hu
      obtain ⟨y, hy, rfl⟩ := hu
      have hj : j < n := by
        have := (List.getElem?_eq_some_iff.1 hy).1
        omega
      rw [List.getElem?_take_of_lt hj] at hy
      rw [hcell j (by omega), List.getD_eq_getElem?_getD, hy]
      rfl

theorem arg_ints {H : Type} {enc : TypeId × Value → H} {P : Program} {w : World} {sp : Nat → Bool} {t e : TypeId} {A : Option Addr} {n c : Nat} {d : DataW H} {p : List MemPlace}
    (ht : P.underlying t = some (.slice e)) (he : P.underlying e = some (.int .i64)) (hc : P.cellsOf e = 1) (h : DataW.Trod enc P w 0 sp true t (.slice A n c) d p) :
    ∃ l : List Int, IReads w w.heap.size A n l ∧ n ≤ maxLen ∧ n ≤ c ∧ ∀ x ∈ l, (Lit.int .i64 x).wf = true := arg_nums ht he hc h

theorem wf_in {x : Int} (h : (Lit.int .i64 x).wf = true) : -9223372036854775808 ≤ x ∧ x ≤ 9223372036854775807 := Go.bounds_i64 h

/-- an argument that is a slice of numbers -/
structure NArg (k : IntKind) (W : World) (A : Option Addr) (n c : Nat) (l : List Int) : Prop where
  reads : Reads W W.heap.size 1 A n (l.map (Value.int k))
  len : n ≤ maxLen
  cap : n ≤ c
  capm : c ≤ maxLen
  nil : A = none → c = 0
  wf : ∀ x ∈ l, (Lit.int k x).wf = true
abbrev IArg := NArg .i64
theorem arg_nums2 {H : Type} {enc : TypeId × Value → H} {P : Program} {w : World} {sp : Nat → Bool} {t e : TypeId} {k : IntKind} {A : Option Addr} {n c : Nat} {d : DataW H} {p : List MemPlace}
    (ht : P.underlying t = some (.slice e)) (he : P.underlying e = some (.int k)) (hc : P.cellsOf e = 1) (h : DataW.Trod enc P w 0 sp true t (.slice A n c) d p) :
    ∃ l : List Int, NArg k w A n c l := by
  obtain ⟨l, h1, h2, h3, h4⟩ := arg_nums ht he hc h
  have hx : c ≤ maxLen ∧ (A = none → c = 0) := by
    obtain ⟨fuel, hf⟩ := h
    rcases open_ints ht he hc hf with ⟨hcs, _⟩ | ⟨x, l, c', zs, hcs, _, hl, hm, hz, _, hcell, hwz⟩
    · simp [Value.cells] at hcs
      obtain ⟨rfl, rfl, rfl⟩ := hcs
      exact ⟨Nat.zero_le _, fun _ => rfl⟩
    · simp [Value.cells] at hcs
      obtain ⟨rfl, rfl, rfl⟩ := hcs
      exact ⟨hm, fun h => by cases h⟩
  exact ⟨l, h1, h2, h3, hx.1, hx.2, h4⟩
end Go.Proofs.Ytopncifebldklaa
