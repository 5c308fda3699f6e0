/- CutFiner: the walk. Conditions: two slices that read as lists. -/
import Derived.Test.YtlicgpjcnkabiaaDoorCutBin
namespace Go.Proofs.YtlicgpjcnkabiaaDoor
set_option linter.unusedVariables false
set_option linter.unusedSimpArgs false
open Go.RowKit

theorem cutFrom_ok : ∀ (l : List Int) (p : Option Int), (∀ c ∈ l, cellB c = true) → l.Pairwise (· < ·) → (∀ q, p = some q → ∀ c ∈ l, q < c) → cutFrom p l = 0
  | [], _, _, _, _ => rfl
  | c :: r, p, h1, h2, h3 => by
    rw [List.pairwise_cons] at h2
    have hc := h1 c (by simp)
    have hfl : flat p c = false := by
      cases p with
      | none => rfl
      | some q => have := h3 q rfl c (by simp); simp [flat]; omega
    rw [cutFrom, hc, if_neg (by decide), hfl, if_neg (by decide)]
    exact cutFrom_ok r (some c) (fun d hd => h1 d (List.mem_cons_of_mem _ hd)) h2.2 (fun q hq d hd => by injection hq with hq; subst hq; exact h2.1 d hd)
theorem cutE_ok {l : List Int} (h : l.length ≤ 60) (h1 : ∀ c ∈ l, cellB c = true) (h2 : l.Pairwise (· < ·)) : cutE l = 0 := by
  unfold cutE; rw [if_neg (by omega)]; exact cutFrom_ok l none h1 h2 (fun q h => by cases h)
theorem mergeE_0 {a b : List Int} (h : mergeE a b = 0) : cutE a = 0 ∧ cutE b = 0 ∧ (mergeV a b).length ≤ 60 := by
  unfold mergeE at h
  by_cases h1 : cutE a = 0
  · rw [if_pos h1] at h
    by_cases h2 : cutE b = 0
    · rw [if_pos h2] at h
      by_cases h3 : 60 < (mergeV a b).length
      · rw [if_pos h3] at h; cases h
      · exact ⟨h1, h2, by omega⟩
    · rw [if_neg h2] at h; exact absurd h h2
  · rw [if_neg h1] at h; exact absurd h h1
theorem merge_ok {a b : List Int} (h : mergeE a b = 0) : cutE (mergeV a b) = 0 := by
  obtain ⟨h1, h2, h3⟩ := mergeE_0 h
  obtain ⟨p, q⟩ := mergeV_spec a b
  refine cutE_ok h3 (fun c hc => ?_) p
  rcases (q c).1 hc with hc | hc
  · exact (cutE_rises h1).2.1 c hc
  · exact (cutE_rises h2).2.1 c hc

end Go.Proofs.YtlicgpjcnkabiaaDoor
