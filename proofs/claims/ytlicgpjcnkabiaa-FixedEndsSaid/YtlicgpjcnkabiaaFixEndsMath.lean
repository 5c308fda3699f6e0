/- The plain law of FixedEnds: a mean lies between, no more than a half lie below or above the middle. No program in sight. Conditions: as each lemma names. -/
import Derived.Test.YtlicgpjcnkabiaaFixMath
namespace Go.Proofs.Ytlicgpjcnkabiaa
set_option linter.unusedVariables false

theorem mean_between {F : List Int} {lo hi : Int} (hne : F.length ≠ 0) (h : ∀ x ∈ F, lo ≤ x ∧ x ≤ hi) : lo ≤ sumL F / F.length ∧ sumL F / F.length ≤ hi := by
  have hp : (0 : Int) < F.length := by omega
  have h1 := sumL_ge (l := F) fun x hx => (h x hx).1
  have h2 := sumL_le (l := F) fun x hx => (h x hx).2
  refine ⟨(Int.le_ediv_iff_mul_le hp).2 h1, ?_⟩
  have : sumL F < (hi + 1) * F.length := by rw [Int.add_mul]; omega
  have := (Int.ediv_lt_iff_lt_mul hp).2 this
  omega

def cntLt (k : Int) (l : List Int) : Nat := (l.filter fun x => decide (x < k)).length
def cntGt (k : Int) (l : List Int) : Nat := (l.filter fun x => decide (k < x)).length
theorem cntLt_le (k : Int) (l : List Int) : cntLt k l ≤ l.length := List.length_filter_le _ _
theorem cntGt_le (k : Int) (l : List Int) : cntGt k l ≤ l.length := List.length_filter_le _ _
theorem cntLt_next {k : Int} {l : List Int} {i : Nat} {x : Int} (h : l[i]? = some x) : cntLt k (l.take (i + 1)) = cntLt k (l.take i) + if x < k then 1 else 0 := by
  unfold cntLt; rw [List.take_add_one, h, List.filter_append, List.length_append]; by_cases hx : x < k <;> simp [hx]
theorem cntGt_next {k : Int} {l : List Int} {i : Nat} {x : Int} (h : l[i]? = some x) : cntGt k (l.take (i + 1)) = cntGt k (l.take i) + if k < x then 1 else 0 := by
  unfold cntGt; rw [List.take_add_one, h, List.filter_append, List.length_append]; by_cases hx : k < x <;> simp [hx]

theorem cnt_split (h : Nat) (p : Int → Bool) (l : List Int) : (l.filter p).length = ((l.take h).filter p).length + ((l.drop h).filter p).length := by
  rw [← List.length_append, ← List.filter_append, List.take_append_drop]

theorem half_below {F : List Int} (hne : F.length ≠ 0) : 2 * cntLt ((sortL F).getD (F.length / 2) 0) F ≤ F.length ∧ 2 * cntGt ((sortL F).getD (F.length / 2) 0) F ≤ F.length ∧ (sortL F).getD (F.length / 2) 0 ∈ F := by
  have hp := sortL_perm F
  have hl := sortL_len F
  have hs := sortL_sorted F
  have hh : F.length / 2 < (sortL F).length := by omega
  have hg : (sortL F).getD (F.length / 2) 0 = (sortL F)[F.length / 2] := by rw [List.getD_eq_getElem?_getD, List.getElem?_eq_getElem hh]; rfl
  rw [hg]
  have hpw := List.pairwise_iff_getElem.1 hs
  refine ⟨?_, ?_, hp.mem_iff.1 (List.getElem_mem hh)⟩
  · have e : cntLt (sortL F)[F.length / 2] F = cntLt (sortL F)[F.length / 2] (sortL F) := (hp.symm.filter _).length_eq
    rw [e]
    unfold cntLt
    rw [cnt_split (F.length / 2)]
    have h0 : (((sortL F).drop (F.length / 2)).filter fun x => decide (x < (sortL F)[F.length / 2])) = [] := by
      rw [List.filter_eq_nil_iff]
      intro x hx
      obtain ⟨j, hj, rfl⟩ := List.getElem_of_mem hx
      rw [List.getElem_drop]
      simp only [decide_eq_true_eq, Int.not_lt]
      rcases Nat.eq_zero_or_pos j with h | h
      · subst h; exact Int.le_refl _
      · exact hpw _ _ hh (by rw [List.length_drop] at hj; omega) (by omega)
    rw [h0]
    have h1 := List.length_filter_le (fun x => decide (x < (sortL F)[F.length / 2])) ((sortL F).take (F.length / 2))
    rw [List.length_take] at h1
    simp only [List.length_nil]
    omega
  · have e : cntGt (sortL F)[F.length / 2] F = cntGt (sortL F)[F.length / 2] (sortL F) := (hp.symm.filter _).length_eq
    rw [e]
    unfold cntGt
    rw [cnt_split (F.length / 2 + 1)]
    have h0 : (((sortL F).take (F.length / 2 + 1)).filter fun x => decide ((sortL F)[F.length / 2] < x)) = [] := by
      rw [List.filter_eq_nil_iff]
      intro x hx
      obtain ⟨j, hj, rfl⟩ := List.getElem_of_mem hx
      rw [List.getElem_take]
      simp only [decide_eq_true_eq, Int.not_lt]
      rw [List.length_take] at hj
      rcases Nat.lt_or_ge j (F.length / 2) with h | h
      · exact hpw _ _ (by omega) hh h
      · have : j = F.length / 2 := by omega
        subst this; exact Int.le_refl _
    rw [h0]
    have h1 := List.length_filter_le (fun x => decide ((sortL F)[F.length / 2] < x)) ((sortL F).drop (F.length / 2 + 1))
    rw [List.length_drop] at h1
    simp only [List.length_nil]
    omega

/-- a fraction rounded is no more than a half away -/
theorem round_near {x y : Int} (hy : 0 < y) : -y ≤ 2 * (x - (2 * x + y) / (2 * y) * y) ∧ 2 * (x - (2 * x + y) / (2 * y) * y) < 2 * y - y + 1 ∧ 2 * (x - (2 * x + y) / (2 * y) * y) < y := by
  have h1 := Int.emod_nonneg (2 * x + y) (show 2 * y ≠ 0 by omega)
  have h2 := Int.emod_lt_of_pos (2 * x + y) (show 0 < 2 * y by omega)
  have h3 := Int.emod_add_mul_ediv (2 * x + y) (2 * y)
  have h4 : 2 * y * ((2 * x + y) / (2 * y)) = 2 * ((2 * x + y) / (2 * y) * y) := by rw [Int.mul_assoc, Int.mul_comm y]
  omega
end Go.Proofs.Ytlicgpjcnkabiaa
