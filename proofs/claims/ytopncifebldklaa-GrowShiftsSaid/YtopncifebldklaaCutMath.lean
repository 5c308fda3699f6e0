/- Chapter 2 in plain words: cuts together, bins, cuts of values. No program in sight. Conditions: as each lemma names. -/
import Derived.Lib.SlicesCompact
import Derived.Test.YtopncifebldklaaFixMath
namespace Go.Proofs.Ytopncifebldklaa
set_option linter.unusedVariables false

/-- what slices.Compact makes of a sorted list: each once, rising -/
theorem compactUpTo_spec (d : Array Int) (hs : ∀ i j, i ≤ j → j < d.size → d[i]! ≤ d[j]!) : ∀ m, m ≤ d.size →
    (Lib.compactUpTo d m).Pairwise (· < ·) ∧ (∀ x ∈ Lib.compactUpTo d m, ∃ j, j < m ∧ x = d[j]!) ∧ ∀ j, j < m → d[j]! ∈ Lib.compactUpTo d m := by
  intro m
  induction m with
  | zero => intro _; refine ⟨by simp [Lib.compactUpTo], fun x hx => by simp [Lib.compactUpTo] at hx, fun j hj => absurd hj (by omega)⟩
  | succ m ih =>
    intro hm
    obtain ⟨h1, h2, h3⟩ := ih (by omega)
    rw [Lib.compactUpTo_succ]
    by_cases hk : Lib.keeps d m = true
    · rw [if_pos hk]
      refine ⟨List.pairwise_append.2 ⟨h1, by simp, ?_⟩, ?_, ?_⟩
      · intro x hx y hy
        obtain rfl := List.mem_singleton.1 hy
        obtain ⟨j, hj, rfl⟩ := h2 x hx
        have ha := hs j (m - 1) (by omega) (by omega)
        have hb := hs (m - 1) m (by omega) (by omega)
        have hc : d[m]! ≠ d[m - 1]! := by
          simp [Lib.keeps] at hk
          rcases hk with hk | hk
          · omega
          · exact hk
        omega
      · intro x hx
        rcases List.mem_append.1 hx with hx | hx
        · obtain ⟨j, hj, e⟩ := h2 x hx; exact ⟨j, by omega, e⟩
        · exact ⟨m, by omega, List.mem_singleton.1 hx⟩
      · intro j hj
        rcases Nat.lt_or_ge j m with h | h
        · exact List.mem_append_left _ (h3 j h)
        · obtain rfl : j = m := by omega
          exact List.mem_append_right _ (by simp)
    · rw [if_neg hk, List.append_nil]
      refine ⟨h1, fun x hx => ?_, fun j hj => ?_⟩
      · obtain ⟨j, hj, e⟩ := h2 x hx; exact ⟨j, by omega, e⟩
      · rcases Nat.lt_or_ge j m with h | h
        · exact h3 j h
        · obtain rfl : j = m := by omega
          have hk' : j ≠ 0 ∧ d[j]! = d[j - 1]! := by
            simp [Lib.keeps] at hk
            exact hk
          rw [hk'.2]; exact h3 (j - 1) (by omega)

def compactL (l : List Int) : List Int := Lib.compact l
theorem compactL_sorted {l : List Int} (h : l.Pairwise (· ≤ ·)) : (compactL l).Pairwise (· < ·) ∧ ∀ x, x ∈ compactL l ↔ x ∈ l := by
  have hs : ∀ i j, i ≤ j → j < l.toArray.size → l.toArray[i]! ≤ l.toArray[j]! := by
    intro i j hij hj
    simp at hj
    have hpw := List.pairwise_iff_getElem.1 h
    rcases Nat.eq_or_lt_of_le hij with rfl | hlt
    · exact Int.le_refl _
    · have := hpw i j (by omega) hj hlt
      simpa [hj, show i < l.length by omega] using this
  obtain ⟨h1, h2, h3⟩ := compactUpTo_spec l.toArray hs l.length (by simp)
  refine ⟨h1, fun x => ⟨fun hx => ?_, fun hx => ?_⟩⟩
  · obtain ⟨j, hj, e⟩ := h2 x hx
    rw [e]; simp [hj]
  · obtain ⟨j, hj, rfl⟩ := List.getElem_of_mem hx
    have := h3 j hj
    simpa [hj, compactL, Lib.compact] using this
theorem strict_one {a b : List Int} (ha : a.Pairwise (· < ·)) (hb : b.Pairwise (· < ·)) (h : ∀ x, x ∈ a ↔ x ∈ b) : a = b := by
  induction a generalizing b with
  | nil =>
    cases b with
    | nil => rfl
    | cons y s => exact absurd ((h y).2 (by simp)) (by simp)
  | cons x r ih =>
    cases b with
    | nil => exact absurd ((h x).1 (by simp)) (by simp)
    | cons y s =>
      rw [List.pairwise_cons] at ha hb
      have e : x = y := by
        have h1 := (h x).1 (by simp)
        have h2 := (h y).2 (by simp)
        rcases List.mem_cons.1 h1 with h1 | h1
        · exact h1
        · rcases List.mem_cons.1 h2 with h2 | h2
          · exact h2.symm
          · have := ha.1 y h2; have := hb.1 x h1; omega
      subst e
      rw [ih ha.2 hb.2 fun z => ?_]
      constructor
      · intro hz
        rcases List.mem_cons.1 ((h z).1 (List.mem_cons_of_mem _ hz)) with e | e
        · subst e; have := ha.1 z hz; omega
        · exact e
      · intro hz
        rcases List.mem_cons.1 ((h z).2 (List.mem_cons_of_mem _ hz)) with e | e
        · subst e; have := hb.1 z hz; omega
        · exact e

def mergeV (a b : List Int) : List Int := compactL (sortL (a ++ b))
theorem mergeV_spec (a b : List Int) : (mergeV a b).Pairwise (· < ·) ∧ ∀ x, x ∈ mergeV a b ↔ x ∈ a ∨ x ∈ b := by
  obtain ⟨h1, h2⟩ := compactL_sorted (sortL_sorted (a ++ b))
  refine ⟨h1, fun x => ?_⟩
  unfold mergeV
  rw [h2, (sortL_perm (a ++ b)).mem_iff, List.mem_append]

/-- how many are at most x -/
def bins (l : List Int) (x : Int) : Nat := (l.filter fun c => decide (c ≤ x)).length
theorem bins_le (l : List Int) (x : Int) : bins l x ≤ l.length := List.length_filter_le _ _
theorem bins_mono {x y : Int} (h : x ≤ y) : ∀ l, bins l x ≤ bins l y
  | [] => Nat.le_refl _
  | c :: r => by
    have := bins_mono h r
    unfold bins at *
    by_cases h1 : c ≤ x
    · have h2 : c ≤ y := by omega
      simp [h1, h2]; exact this
    · by_cases h2 : c ≤ y
      · simp [h1, h2]; omega
      · simp [h1, h2]; exact this
/-- two numbers are in one bin just where no cut parts them -/
theorem bins_eq {x y : Int} (h : x ≤ y) : ∀ l, bins l x = bins l y ↔ ∀ c ∈ l, ¬ (x < c ∧ c ≤ y)
  | [] => by simp [bins]
  | c :: r => by
    have ih := bins_eq h r
    have hm := bins_mono h r
    have e1 : bins (c :: r) x = bins r x + if c ≤ x then 1 else 0 := by unfold bins; by_cases h1 : c ≤ x <;> simp [h1]
    have e2 : bins (c :: r) y = bins r y + if c ≤ y then 1 else 0 := by unfold bins; by_cases h1 : c ≤ y <;> simp [h1]
    rw [e1, e2]
    constructor
    · intro e d hd
      rcases List.mem_cons.1 hd with rfl | hd
      · split at e <;> split at e <;> omega
      · have : bins r x = bins r y := by split at e <;> split at e <;> omega
        exact ih.1 this d hd
    · intro hall
      have h1 := ih.2 fun d hd => hall d (List.mem_cons_of_mem _ hd)
      have h2 := hall c (by simp)
      rw [h1]
      split <;> split <;> omega
theorem bins_merge {a b : List Int} {x y : Int} : (bins (mergeV a b) x = bins (mergeV a b) y) ↔ (bins a x = bins a y ∧ bins b x = bins b y) := by
  have key : ∀ {x y : Int}, x ≤ y → ((bins (mergeV a b) x = bins (mergeV a b) y) ↔ (bins a x = bins a y ∧ bins b x = bins b y)) := by
    intro x y h
    rw [bins_eq h, bins_eq h, bins_eq h]
    have hm := (mergeV_spec a b).2
    constructor
    · intro hh; exact ⟨fun c hc => hh c ((hm c).2 (.inl hc)), fun c hc => hh c ((hm c).2 (.inr hc))⟩
    · rintro ⟨h1, h2⟩ c hc
      rcases (hm c).1 hc with hc | hc
      · exact h1 c hc
      · exact h2 c hc
  rcases Int.le_total x y with h | h
  · exact key h
  · rw [eq_comm, key h, eq_comm (a := bins a y), eq_comm (a := bins b y)]
end Go.Proofs.Ytopncifebldklaa
