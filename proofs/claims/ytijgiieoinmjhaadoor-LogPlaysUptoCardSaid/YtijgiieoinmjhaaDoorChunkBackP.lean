/- ChunkBack, plain: pieces together are the whole. Conditions: as each lemma names. -/
import Derived.Test.YtijgiieoinmjhaaDoorFetch3
import Derived.Test.YtijgiieoinmjhaaDoorChunkSizes
import Derived.Test.YtijgiieoinmjhaaDoorSumDiff
namespace Go.Proofs.YtijgiieoinmjhaaDoor
set_option linter.unusedVariables false
set_option linter.unusedSimpArgs false
open Go.RowKit

theorem pieces_take (l : List Int) (s : Nat) : ∀ k, (List.range k).flatMap (piece l s) = l.take (k * s) := by
  intro k
  induction k with
  | zero => simp
  | succ k ih =>
    rw [List.range_succ, List.flatMap_append, ih, Nat.succ_mul, List.take_add]
    simp [piece]
theorem pieces_all {l : List Int} {s k : Nat} (h : l.length ≤ k * s) : (List.range k).flatMap (piece l s) = l := by
  rw [pieces_take, List.take_of_length_le h]
/-- which pieces are there -/
def OfPieces (l : List Int) (s : Nat) (S : List (Option (List Int))) : Prop := ∀ (j : Nat) bs, S[j]? = some (some bs) → bs = piece l s j
theorem OfPieces.set_ {l : List Int} {s i : Nat} {S : List (Option (List Int))} (h : OfPieces l s S) : OfPieces l s (S.set i (some (piece l s i))) := by
  intro j bs hj
  by_cases hji : j = i
  · subst hji
    by_cases hl : j < S.length
    · rw [List.getElem?_set_self hl] at hj
      injection hj with hj
      injection hj with hj
      exact hj.symm
    · rw [List.getElem?_eq_none (by rw [List.length_set]; omega)] at hj
      cases hj
  · rw [List.getElem?_set_ne (Ne.symm hji)] at hj
    exact h j bs hj
theorem OfPieces.start (l : List Int) (s k : Nat) : OfPieces l s (List.replicate k none) := fun j bs h => by
  have := List.eq_of_mem_replicate (List.mem_of_getElem? h)
  cases this
theorem OfPieces.bytes {l : List Int} {s k : Nat} {S : List (Option (List Int))} (h : OfPieces l s S) (hl : S.length = k) (hall : ∀ j, j < k → ∃ bs, S[j]? = some (some bs)) (hk : l.length ≤ k * s) : bytesOf S = l := by
  have e : S = (List.range k).map fun j => some (piece l s j) := by
    refine List.ext_getElem? fun j => ?_
    by_cases hj : j < k
    · obtain ⟨bs, hbs⟩ := hall j hj
      rw [hbs, h j bs hbs]
      simp [hj]
    · rw [List.getElem?_eq_none (by omega), List.getElem?_eq_none (by simp; omega)]
  unfold bytesOf
  rw [e, List.flatMap_map]
  have : (fun j => (some (piece l s j)).getD []) = piece l s := rfl
  rw [this]
  exact pieces_all hk
theorem there_full {S : List (Option (List Int))} (h : ∀ j, j < S.length → ∃ bs, S[j]? = some (some bs)) : there S = S.length := by
  unfold there
  rw [List.length_filter_eq_length_iff]
  intro o ho
  obtain ⟨j, hj⟩ := List.mem_iff_getElem?.1 ho
  obtain ⟨bs, hbs⟩ := h j (List.getElem?_eq_some_iff.1 hj).1
  rw [hbs] at hj
  injection hj with hj
  rw [← hj]
  rfl
theorem lacks_full {S : List (Option (List Int))} {k : Nat} (h : ∀ j, j < k → ∃ bs, S[j]? = some (some bs)) : lacksTo S k = [] := by
  unfold lacksTo
  rw [List.map_eq_nil_iff, List.filter_eq_nil_iff]
  intro j hj
  obtain ⟨bs, hbs⟩ := h j (List.mem_range.1 hj)
  rw [hbs]
  simp
theorem piece_bytes {l : List Int} {s j : Nat} (h : ∀ x ∈ l, 0 ≤ x ∧ x < 256) : ∀ x ∈ piece l s j, 0 ≤ x ∧ x < 256 := fun x hx => h x (List.mem_of_mem_drop (List.mem_of_mem_take hx))
/-- a piece of which one byte is another one is not the piece -/
theorem piece_wrong {l : List Int} {s j a : Nat} {c d : Int} (hb : ∀ x ∈ l, 0 ≤ x ∧ x < 256) (hc : (piece l s j)[a]? = some c) (hd : 0 ≤ d ∧ d < 256) (h : c ≠ d) : sumV ((piece l s j).set a d) ≠ (ptOf l s j).sum :=
  sum_differ hc (piece_bytes hb c (List.mem_of_getElem? hc)) hd h
end Go.Proofs.YtijgiieoinmjhaaDoor
