/- Part 22 of what LawWeighNeeds needs: Fixed2. Conditions: as each lemma names. -/
import Derived.Test.YtopncifebldklaaPkWeighNeeds08
import Derived.Test.YtopncifebldklaaPkWeighNeeds06
/- Chapter 1: the contracts of package fixed on lists. Conditions: as each lemma names. -/
namespace Go.Proofs.Ytopncifebldklaa
set_option linter.unusedVariables false
set_option linter.unusedSimpArgs false
open Go.RowKit

/-- the row half way: the first k made fit -/
def halfL (L : List Int) (k : Nat) : List Int := (L.take k).map fitV ++ L.drop k
theorem halfL_len (L : List Int) (k : Nat) : (halfL L k).length = L.length := by unfold halfL; simp; omega
theorem halfL_0 (L : List Int) : halfL L 0 = L := by simp [halfL]
theorem halfL_all (L : List Int) : halfL L L.length = L.map fitV := by simp [halfL]
theorem halfL_at {L : List Int} {k : Nat} {x : Int} (h : L[k]? = some x) : (halfL L k)[k]? = some x := by
  have hk := (List.getElem?_eq_some_iff.1 h).1
  unfold halfL
  rw [List.getElem?_append_right (by simp; omega)]
  simp only [List.length_map, List.length_take, List.getElem?_drop]
  rw [show k + (k - min k L.length) = k by omega]; exact h
theorem halfL_set {L : List Int} {k : Nat} {x : Int} (h : L[k]? = some x) : (halfL L k).set k (fitV x) = halfL L (k + 1) := by
  have hk := (List.getElem?_eq_some_iff.1 h).1
  unfold halfL
  rw [drop_at h, take_next h, List.map_append, List.append_assoc]
  rw [List.set_append_right _ _ (by simp; omega)]
  simp [show k - min k L.length = 0 by omega]

end Go.Proofs.Ytopncifebldklaa
