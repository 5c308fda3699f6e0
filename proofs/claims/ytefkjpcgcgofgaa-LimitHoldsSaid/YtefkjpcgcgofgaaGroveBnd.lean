/- grove.Bounds: contract. Conditions: an argument that reads as a grove. -/
import Derived.Test.YtefkjpcgcgofgaaGroveOps2
import Derived.Test.YtefkjpcgcgofgaaApp
namespace Go.Proofs.Ytefkjpcgcgofgaa
set_option linter.unusedVariables false
set_option linter.unusedSimpArgs false
open Go.RowKit

def leafVals (t : List Nd) : List Int := (t.filter fun n => n.f == -1).map (·.v)
theorem leafVals_next {t : List Nd} {k : Nat} {n : Nd} (h : t[k]? = some n) : leafVals (t.take (k + 1)) = leafVals (t.take k) ++ (if n.f = -1 then [n.v] else []) := by
  unfold leafVals
  rw [take_next h, List.filter_append, List.map_append]
  congr 1
  by_cases hf : n.f = -1 <;> simp [hf]
theorem leafVals_in {t : List Nd} {fe : Int} (h : Right t fe) : leafVals t ≠ [] ∧ ∀ x ∈ leafVals t, -1000000 ≤ x ∧ x ≤ 1000000 := by
  constructor
  · obtain ⟨n, hn, hf, _⟩ := leaf_in (r := []) h
    intro e
    have : n.v ∈ leafVals t := List.mem_map.2 ⟨n, List.mem_filter.2 ⟨List.mem_of_getElem? hn, by simpa using hf⟩, rfl⟩
    rw [e] at this; cases this
  · intro x hx
    obtain ⟨n, hn, rfl⟩ := List.mem_map.1 hx
    obtain ⟨hn, hf⟩ := List.mem_filter.1 hn
    obtain ⟨i, hi⟩ := List.mem_iff_getElem?.1 hn
    have hf : n.f = -1 := by simpa using hf
    rcases node_of (h.node i n hi) with h1 | h1
    · exact ⟨h1.2.1, h1.2.2.1⟩
    · omega
theorem iown_app {w' : World} {base : Nat} {v' : Value} {l : List Int} {x : Int} (h : w'.ownsRow base 3 1 v' (l.length + 1) (l.map (Value.int .i64) ++ [.int .i64 x])) : IOwn w' base v' (l ++ [x]) := by
  unfold IOwn
  rw [List.length_append, List.map_append]
  exact h
noncomputable def boundsV (g : Gv) : Int × Int := if g.e = 0 then betwV g.way g.ws (g.ts.map fun t => Lib.minOf (leafVals t.l)) (g.ts.map fun t => Lib.maxOf (leafVals t.l)) else (0, 0)

end Go.Proofs.Ytefkjpcgcgofgaa
