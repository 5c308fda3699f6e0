/- Votes: the plain maths of what values of trees come to together. Conditions: none beyond what each lemma names. -/
import Derived.Lib.Slices
import Derived.Lib.Hide
namespace Go.Proofs.Ytefkjpcgcgofgaa
set_option linter.unusedVariables false
set_option linter.unusedSimpArgs false

/-- values, each with its weight -/
abbrev Ps := List (Int × Int)
def pSum (ps : Ps) : Int := (ps.map fun p => p.1 * p.2).sum
def pAll (ps : Ps) : Int := (ps.map fun p => p.2).sum
def pVotes (ps : Ps) (v : Int) : Int := ((ps.filter fun p => p.1 == v).map fun p => p.2).sum
theorem pSum_snoc (ps : Ps) (p : Int × Int) : pSum (ps ++ [p]) = pSum ps + p.1 * p.2 := by simp [pSum, List.sum_append]
theorem pAll_snoc (ps : Ps) (p : Int × Int) : pAll (ps ++ [p]) = pAll ps + p.2 := by simp [pAll, List.sum_append]
theorem pVotes_snoc_same (ps : Ps) (p : Int × Int) : pVotes (ps ++ [p]) p.1 = pVotes ps p.1 + p.2 := by
  unfold pVotes
  rw [List.filter_append, List.map_append, List.sum_append]
  simp
theorem pVotes_snoc_other (ps : Ps) (p : Int × Int) {v : Int} (h : p.1 ≠ v) : pVotes (ps ++ [p]) v = pVotes ps v := by
  unfold pVotes
  rw [List.filter_append, List.map_append, List.sum_append]
  simp [h]
theorem pVotes_none {ps : Ps} {v : Int} (h : v ∉ ps.map (·.1)) : pVotes ps v = 0 := by
  unfold pVotes
  rw [List.filter_eq_nil_iff.2]
  · rfl
  · intro p hp
    simp only [beq_iff_eq]
    rintro rfl
    exact h (List.mem_map.2 ⟨p, hp, rfl⟩)
theorem pVotes_in {ps : Ps} {v : Int} (hw : ∀ p ∈ ps, 0 ≤ p.2 ∧ p.2 ≤ 1000) : 0 ≤ pVotes ps v ∧ pVotes ps v ≤ 1000 * ps.length := by
  induction ps with
  | nil => simp [pVotes]
  | cons p r ih =>
    have h1 := hw p (List.mem_cons_self ..)
    obtain ⟨h2, h3⟩ := ih fun q hq => hw q (List.mem_cons_of_mem _ hq)
    unfold pVotes at h2 h3 ⊢
    rw [List.filter_cons, List.length_cons]
    split
    · rw [List.map_cons, List.sum_cons]; omega
    · omega
theorem pVotes_pos {ps : Ps} {v : Int} (hw : ∀ p ∈ ps, 1 ≤ p.2) (h : v ∈ ps.map (·.1)) : 1 ≤ pVotes ps v := by
  induction ps with
  | nil => simp at h
  | cons p r ih =>
    have h1 := hw p (List.mem_cons_self ..)
    have h0 : 0 ≤ pVotes r v := by
      by_cases hv : v ∈ r.map (·.1)
      · have := ih (fun q hq => hw q (List.mem_cons_of_mem _ hq)) hv; omega
      · rw [pVotes_none hv]; exact Int.le_refl _
    rw [List.map_cons, List.mem_cons] at h
    by_cases e : p.1 = v
    · unfold pVotes at h0 ⊢
      rw [List.filter_cons, if_pos (by simpa using e), List.map_cons, List.sum_cons]; omega
    · rcases h with h | h
      · exact absurd h.symm e
      · have := ih (fun q hq => hw q (List.mem_cons_of_mem _ hq)) h
        unfold pVotes at this ⊢
        rw [List.filter_cons, if_neg (by simpa using e)]; exact this
theorem pSum_in {ps : Ps} (hv : ∀ p ∈ ps, -1000000000 ≤ p.1 * p.2 ∧ p.1 * p.2 ≤ 1000000000) : -1000000000 * (ps.length : Int) ≤ pSum ps ∧ pSum ps ≤ 1000000000 * ps.length := by
  induction ps with
  | nil => simp [pSum]
  | cons p r ih =>
    have h1 := hv p (List.mem_cons_self ..)
    obtain ⟨h2, h3⟩ := ih fun q hq => hv q (List.mem_cons_of_mem _ hq)
    unfold pSum at h2 h3 ⊢
    rw [List.map_cons, List.sum_cons, List.length_cons]
    omega
theorem pAll_in {ps : Ps} (hw : ∀ p ∈ ps, 1 ≤ p.2 ∧ p.2 ≤ 1000) : (ps.length : Int) ≤ pAll ps ∧ pAll ps ≤ 1000 * ps.length := by
  induction ps with
  | nil => simp [pAll]
  | cons p r ih =>
    have h1 := hw p (List.mem_cons_self ..)
    obtain ⟨h2, h3⟩ := ih fun q hq => hw q (List.mem_cons_of_mem _ hq)
    unfold pAll at h2 h3 ⊢
    rw [List.map_cons, List.sum_cons, List.length_cons]
    omega
theorem mul_in {x y : Int} (hx : -1000000 ≤ x ∧ x ≤ 1000000) (hy : 0 ≤ y ∧ y ≤ 1000) : -1000000000 ≤ x * y ∧ x * y ≤ 1000000000 := by
  have h1 : x * y ≤ 1000000 * y := Int.mul_le_mul_of_nonneg_right hx.2 hy.1
  have h2 : -1000000 * y ≤ x * y := Int.mul_le_mul_of_nonneg_right hx.1 hy.1
  omega

/-- the vote: of the values with most weight the least -/
structure IsVote (ps : Ps) (b : Int) : Prop where
  mem : b ∈ ps.map (·.1)
  most : ∀ v ∈ ps.map (·.1), pVotes ps v ≤ pVotes ps b
  least : ∀ v ∈ ps.map (·.1), pVotes ps v = pVotes ps b → b ≤ v
theorem IsVote.eq {ps : Ps} {a b : Int} (ha : IsVote ps a) (hb : IsVote ps b) : a = b := by
  have h1 := ha.most b hb.mem
  have h2 := hb.most a ha.mem
  have h3 := ha.least b hb.mem (by omega)
  have h4 := hb.least a ha.mem (by omega)
  omega
noncomputable def voteV (ps : Ps) : Int := Classical.epsilon (IsVote ps)
theorem voteV_eq {ps : Ps} {b : Int} (h : IsVote ps b) : voteV ps = b := (Classical.epsilon_spec (p := IsVote ps) ⟨b, h⟩).eq h
/-- what values come to -/
noncomputable def togV (way : Int) (ws l : List Int) : Int :=
  if way = 1 then pSum (l.zip ws) else if way = 2 then pSum (l.zip ws) / pAll (l.zip ws) else voteV (l.zip ws)

theorem foldl_max_ge (l : List Int) (a : Int) : a ≤ l.foldl max a ∧ (∀ x ∈ l, x ≤ l.foldl max a) ∧ (l.foldl max a = a ∨ l.foldl max a ∈ l) := by
  induction l generalizing a with
  | nil => simp
  | cons y r ih =>
    obtain ⟨h1, h2, h3⟩ := ih (max a y)
    rw [List.foldl_cons]
    refine ⟨by omega, fun x hx => ?_, ?_⟩
    · rcases List.mem_cons.1 hx with rfl | hx
      · omega
      · exact h2 x hx
    · rcases h3 with h3 | h3
      · rcases Int.le_total a y with h | h
        · exact .inr (by rw [h3, Int.max_eq_right h]; exact List.mem_cons_self ..)
        · exact .inl (by rw [h3, Int.max_eq_left h])
      · exact .inr (List.mem_cons_of_mem _ h3)
theorem foldl_min_le (l : List Int) (a : Int) : l.foldl min a ≤ a ∧ (∀ x ∈ l, l.foldl min a ≤ x) ∧ (l.foldl min a = a ∨ l.foldl min a ∈ l) := by
  induction l generalizing a with
  | nil => simp
  | cons y r ih =>
    obtain ⟨h1, h2, h3⟩ := ih (min a y)
    rw [List.foldl_cons]
    refine ⟨by omega, fun x hx => ?_, ?_⟩
    · rcases List.mem_cons.1 hx with rfl | hx
      · omega
      · exact h2 x hx
    · rcases h3 with h3 | h3
      · rcases Int.le_total a y with h | h
        · exact .inl (by rw [h3, Int.min_eq_left h])
        · exact .inr (by rw [h3, Int.min_eq_right h]; exact List.mem_cons_self ..)
      · exact .inr (List.mem_cons_of_mem _ h3)
theorem maxOf_spec {l : List Int} (h : l ≠ []) : Lib.maxOf l ∈ l ∧ ∀ x ∈ l, x ≤ Lib.maxOf l := by
  cases l with
  | nil => exact absurd rfl h
  | cons a r =>
    obtain ⟨h1, h2, h3⟩ := foldl_max_ge (a :: r) a
    unfold Lib.maxOf
    rw [List.headD_cons]
    refine ⟨?_, h2⟩
    rcases h3 with h3 | h3
    · rw [h3]; exact List.mem_cons_self ..
    · exact h3
theorem minOf_spec {l : List Int} (h : l ≠ []) : Lib.minOf l ∈ l ∧ ∀ x ∈ l, Lib.minOf l ≤ x := by
  cases l with
  | nil => exact absurd rfl h
  | cons a r =>
    obtain ⟨h1, h2, h3⟩ := foldl_min_le (a :: r) a
    unfold Lib.minOf
    rw [List.headD_cons]
    refine ⟨?_, h2⟩
    rcases h3 with h3 | h3
    · rw [h3]; exact List.mem_cons_self ..
    · exact h3
end Go.Proofs.Ytefkjpcgcgofgaa
