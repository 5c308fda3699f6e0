/- CutLaws: the plain law. Conditions: none beyond what each lemma names. -/
import Derived.Test.YtlicgpjcnkabiaaDoorCuts
import Derived.Test.YtlicgpjcnkabiaaDoorCutFiner
namespace Go.Proofs.YtlicgpjcnkabiaaDoor
set_option linter.unusedVariables false
set_option linter.unusedSimpArgs false
open Go.RowKit

theorem getD_mem {s : List Int} {i : Nat} (h : i < s.length) : s.getD i 0 ∈ s := by
  rw [List.getD_eq_getElem?_getD, List.getElem?_eq_getElem h]; exact List.getElem_mem h
theorem pair_snoc {a : List Int} {x : Int} (h : a.Pairwise (· < ·)) (hx : ∀ y, a.getLast? = some y → y < x) : (a ++ [x]).Pairwise (· < ·) := by
  rw [List.pairwise_append]
  refine ⟨h, by simp, fun u hu v hv => ?_⟩
  simp at hv; subst hv
  rcases List.eq_nil_or_concat a with rfl | ⟨b, y, rfl⟩
  · cases hu
  · have h1 := hx y (by simp)
    rw [List.concat_eq_append] at hu h
    rcases List.mem_append.1 hu with h2 | h2
    · have := (List.pairwise_append.1 h).2.2 u h2 y (by simp)
      omega
    · simp at h2; subst h2; exact h1
theorem cutsK_spec {s : List Int} {many : Nat} (hn : 0 < s.length) : ∀ k, k ≤ many → (cutsK s many k).Pairwise (· < ·) ∧ ∀ x ∈ cutsK s many k, x ∈ s ∧ s.getD 0 0 < x := by
  intro k
  induction k with
  | zero => intro _; exact ⟨List.Pairwise.nil, fun x h => by cases h⟩
  | succ k ih =>
    intro hk
    obtain ⟨h1, h2⟩ := ih (by omega)
    rw [cutsK]
    by_cases ht : takesB (s.getD 0 0) (cutAt s many k) (cutsK s many k).getLast? = true
    · rw [if_pos ht]
      have hm : cutAt s many k ∈ s := getD_mem (idx_lt hn (by omega))
      have h0 : s.getD 0 0 < cutAt s many k := by
        unfold takesB at ht
        split at ht
        · simpa using ht
        · rw [Bool.and_eq_true] at ht; simpa using ht.1
      refine ⟨pair_snoc h1 (fun y hy => ?_), fun x hx => ?_⟩
      · rw [hy] at ht
        unfold takesB at ht
        rw [Bool.and_eq_true] at ht
        simpa using ht.2
      · rcases List.mem_append.1 hx with h | h
        · exact h2 x h
        · simp at h; subst h; exact ⟨hm, h0⟩
    · rw [if_neg ht]; exact ⟨h1, h2⟩
theorem cutsV_spec {l : List Int} {many : Int} (h : cutsE l many = 0) :
    (cutsV l many).Pairwise (· < ·) ∧ ((cutsV l many).length : Int) ≤ many ∧ many ≤ 60 ∧ (∀ x ∈ cutsV l many, x ∈ l ∧ ∃ y ∈ l, y < x) ∧ (l ≠ [] → ∃ z ∈ l, ∀ x ∈ cutsV l many, z < x) ∧ valuesE l = 0 := by
  have hE : 1 ≤ many ∧ many ≤ 60 ∧ valuesE l = 0 := by
    unfold cutsE at h
    by_cases h1 : many < 1
    · rw [if_pos h1] at h; cases h
    · rw [if_neg h1] at h
      by_cases h2 : 60 < many
      · rw [if_pos h2] at h; cases h
      · rw [if_neg h2] at h; exact ⟨by omega, by omega, h⟩
  have hV : cutsV l many = cutsS (sortL l) many.toNat := by unfold cutsV; rw [if_pos h]
  rw [hV]
  unfold cutsS
  by_cases h0 : (sortL l).length = 0
  · rw [if_pos h0]
    have hl : l = [] := by rw [sortL_len] at h0; exact List.eq_nil_of_length_eq_zero h0
    exact ⟨List.Pairwise.nil, by simp; omega, hE.2.1, fun x hx => (by cases hx), fun hy => absurd hl hy, hE.2.2⟩
  · rw [if_neg h0]
    obtain ⟨h1, h2⟩ := cutsK_spec (s := sortL l) (many := many.toNat) (by omega) many.toNat (Nat.le_refl _)
    have hlen := cutsK_len (sortL l) many.toNat many.toNat
    have hm0 : (sortL l).getD 0 0 ∈ l := (sortL_perm l).mem_iff.1 (getD_mem (by omega))
    refine ⟨h1, by omega, hE.2.1, fun x hx => ?_, fun _ => ⟨_, hm0, fun x hx => (h2 x hx).2⟩, hE.2.2⟩
    obtain ⟨h3, h4⟩ := h2 x hx
    exact ⟨(sortL_perm l).mem_iff.1 h3, _, hm0, h4⟩
theorem values_cells {l : List Int} (h : valuesE l = 0) : (∀ x ∈ l, cellB x = true) ∧ l.length ≤ 1000 := by
  unfold valuesE at h
  by_cases h1 : 1000 < l.length
  · rw [if_pos h1] at h; cases h
  · rw [if_neg h1] at h
    by_cases h2 : l.all cellB = true
    · exact ⟨fun x hx => List.all_eq_true.1 h2 x hx, by omega⟩
    · rw [if_neg h2] at h; cases h
/-- bins count all values, and none twice -/
theorem count_sum (f : Int → Nat) (N : Nat) : ∀ l : List Int, (∀ x ∈ l, f x < N) → ((List.range N).map fun j => ((l.filter fun x => f x == j).length : Int)).sum = l.length := by
  have hz : ∀ N : Nat, ((List.range N).map fun _ : Nat => (0 : Int)).sum = 0 := by
    intro N
    induction N with
    | zero => rfl
    | succ N ih => rw [List.range_succ, List.map_append, List.sum_append, ih]; rfl
  have hone : ∀ (N a : Nat) (g : Nat → Int), a < N → ((List.range N).map fun j => (if a = j then 1 else 0) + g j).sum = 1 + ((List.range N).map g).sum := by
    intro N
    induction N with
    | zero => intro a g h; omega
    | succ N ih =>
      intro a g h
      rw [List.range_succ, List.map_append, List.sum_append, List.map_append, List.sum_append]
      rcases Nat.lt_or_ge a N with h1 | h1
      · rw [ih a g h1]
        simp only [List.map_cons, List.map_nil, List.sum_cons, List.sum_nil]
        rw [if_neg (by omega)]; omega
      · obtain rfl : a = N := by omega
        have : ((List.range a).map fun j => (if a = j then 1 else 0) + g j) = (List.range a).map g := by
          refine List.map_congr_left fun j hj => ?_
          rw [List.mem_range] at hj
          rw [if_neg (by omega)]; omega
        rw [this]
        simp only [List.map_cons, List.map_nil, List.sum_cons, List.sum_nil, if_pos]
        omega
  intro l
  induction l with
  | nil => intro _; simpa using hz N
  | cons x r ih =>
    intro h
    have h1 := ih (fun y hy => h y (List.mem_cons_of_mem _ hy))
    have h2 : ((List.range N).map fun j => (((x :: r).filter fun y => f y == j).length : Int)) = (List.range N).map fun j => (if f x = j then 1 else 0) + ((r.filter fun y => f y == j).length : Int) := by
      refine List.map_congr_left fun j _ => ?_
      rw [List.filter_cons]
      by_cases he : f x = j
      · have : (f x == j) = true := by simpa using he
        rw [this, if_pos rfl, if_pos he, List.length_cons]; omega
      · have : (f x == j) = false := by simpa using he
        rw [this, if_neg he]; simp
    rw [h2, hone N (f x) _ (h x List.mem_cons_self), h1, List.length_cons]; omega
theorem countV_spec {cs l : List Int} : (countV cs l).length = cs.length + 1 ∧ (countV cs l).sum = l.length ∧ (∀ x ∈ countV cs l, 0 ≤ x) ∧ ((∃ z ∈ l, ∀ x ∈ cs, z < x) → ∃ y r, countV cs l = y :: r ∧ 1 ≤ y) := by
  have hb : ∀ x, binN cs x < cs.length + 1 := fun x => by have : binN cs x ≤ cs.length := List.length_filter_le _ _; omega
  refine ⟨by simp [countV], count_sum (binN cs) (cs.length + 1) l (fun x _ => hb x), fun x hx => ?_, ?_⟩
  · unfold countV at hx
    obtain ⟨j, _, rfl⟩ := List.mem_map.1 hx
    omega
  · rintro ⟨z, hz, hzx⟩
    have h0 : binN cs z = 0 := by
      unfold binN
      rw [List.length_eq_zero_iff, List.filter_eq_nil_iff]
      intro x hx
      have := hzx x hx
      simp; omega
    unfold countV
    rw [List.range_succ_eq_map, List.map_cons]
    refine ⟨_, _, rfl, ?_⟩
    have : z ∈ l.filter fun x => binN cs x == 0 := List.mem_filter.2 ⟨hz, by simpa using h0⟩
    have := List.length_pos_of_mem this
    omega
/-- each number is between the ends of its bin -/
theorem bin_ends {cs : List Int} (h : cs.Pairwise (· < ·)) {x : Int} (hx : -1000000 ≤ x ∧ x ≤ 1000000) : endLo cs (binN cs x) ≤ x ∧ x ≤ endHi cs (binN cs x) := by
  obtain ⟨h1, h2⟩ := bin_rep h x
  constructor
  · unfold endLo
    split
    · omega
    · rename_i h0
      have hl : binN cs x - 1 < cs.length := by omega
      have hg := List.getElem?_eq_getElem hl
      rw [List.getD_eq_getElem?_getD, hg]
      exact (h2 _ _ hg).1 (by omega)
  · unfold endHi
    split
    · rename_i h0
      have hg := List.getElem?_eq_getElem h0
      rw [List.getD_eq_getElem?_getD, hg]
      have : ¬ cs[binN cs x] ≤ x := fun hle => by have := (h2 _ _ hg).2 hle; omega
      show x ≤ cs[binN cs x] - 1
      omega
    · omega
theorem merge_self {cs : List Int} (h : cs.Pairwise (· < ·)) : mergeV cs cs = cs := by
  obtain ⟨h1, h2⟩ := mergeV_spec cs cs
  exact strict_one h1 h (fun x => by rw [h2, or_self])
theorem cuts_fact : cutsE [1, 2, 3, 4] 1 = 0 ∧ cutsV [1, 2, 3, 4] 1 = [3] := by
  have h0 : cutsE [1, 2, 3, 4] 1 = 0 := by decide
  refine ⟨h0, ?_⟩
  have h1 : sortL [1, 2, 3, 4] = [1, 2, 3, 4] := (sortL_of (List.Perm.refl _) (by simp)).symm
  unfold cutsV
  rw [if_pos h0, h1]
  decide

theorem mem_next {l : List Int} {p : Nat} {z : Int} (h : l[p]? = some z) (y : Int) : decide (y ∈ l.take (p + 1)) = (decide (y ∈ l.take p) || (z == y)) := by
  rw [take_next h, Bool.eq_iff_iff]
  simp only [List.mem_append, List.mem_singleton, decide_eq_true_eq, Bool.or_eq_true, beq_iff_eq]
  exact ⟨fun h => h.elim .inl (fun e => .inr e.symm), fun h => h.elim .inl (fun e => .inr e.symm)⟩
theorem less_next {l : List Int} {p : Nat} {z : Int} (h : l[p]? = some z) (y : Int) : ((l.take (p + 1)).any fun u => decide (u < y)) = ((l.take p).any (fun u => decide (u < y)) || decide (z < y)) := by
  rw [take_next h, List.any_append]; simp
theorem sum_next {l : List Int} {k : Nat} {x : Int} (h : l[k]? = some x) : (l.take (k + 1)).sum = (l.take k).sum + x := by rw [take_next h, List.sum_append]; simp
theorem sum_part {l : List Int} (h : ∀ x ∈ l, 0 ≤ x) (k : Nat) : 0 ≤ (l.take k).sum ∧ (l.take k).sum ≤ l.sum := by
  have hn : ∀ m : List Int, (∀ x ∈ m, 0 ≤ x) → 0 ≤ m.sum := by
    intro m
    induction m with
    | nil => intro _; exact Int.le_refl _
    | cons a r ih => intro hm; rw [List.sum_cons]; have := hm a List.mem_cons_self; have := ih (fun x hx => hm x (List.mem_cons_of_mem _ hx)); omega
  have h1 := hn (l.take k) (fun x hx => h x (List.mem_of_mem_take hx))
  have h2 := hn (l.drop k) (fun x hx => h x (List.mem_of_mem_drop hx))
  have h3 : l.sum = (l.take k).sum + (l.drop k).sum := by rw [← List.sum_append, List.take_append_drop]
  omega
end Go.Proofs.YtlicgpjcnkabiaaDoor
