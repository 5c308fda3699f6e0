/- Part 5 of what LawWeighNeeds needs: FixMath. Conditions: as each lemma names. -/
/- Chapter 1 in plain words: numbers that have an end, fractions, lists. No program in sight. Conditions: as each lemma names. -/
namespace Go.Proofs.Ytopncifebldklaa
set_option linter.unusedVariables false

def fitV (n : Int) : Int := if 1099511627776 < n then 1099511627776 else if n < -1099511627776 then -1099511627776 else n
theorem fitV_le (n : Int) : -1099511627776 ≤ fitV n ∧ fitV n ≤ 1099511627776 := by unfold fitV; omega
theorem fitV_neg (n : Int) : fitV (-n) = -fitV n := by unfold fitV; omega
theorem fitV_id {n : Int} (h1 : -1099511627776 ≤ n) (h2 : n ≤ 1099511627776) : fitV n = n := by unfold fitV; omega
def addV (a b : Int) : Int := fitV (fitV a + fitV b)
def mulV (a b : Int) : Int := fitV (fitV a * fitV b)
theorem addV_neg (a b : Int) : addV (-a) (-b) = -addV a b := by
  unfold addV; rw [fitV_neg, fitV_neg, show -fitV a + -fitV b = -(fitV a + fitV b) by omega, fitV_neg]
theorem mulV_negl (a b : Int) : mulV (-a) b = -mulV a b := by
  unfold mulV; rw [fitV_neg, Int.neg_mul, fitV_neg]
theorem mulV_comm (a b : Int) : mulV a b = mulV b a := by unfold mulV; rw [Int.mul_comm]
theorem addV_comm (a b : Int) : addV a b = addV b a := by unfold addV; rw [Int.add_comm]
theorem mulV_negr (a b : Int) : mulV a (-b) = -mulV a b := by rw [mulV_comm, mulV_negl, mulV_comm]
theorem mulV_zero {a b : Int} (h : fitV a = 0 ∨ fitV b = 0) : mulV a b = 0 := by
  unfold mulV
  rcases h with h | h <;> rw [h] <;> simp <;> rfl

/-- is a product beyond n: by a division -/
theorem prod_gt {x y n : Int} (hx : 0 ≤ x) (hy : 0 < y) : n / y < x ↔ n < x * y := by
  rw [Int.ediv_lt_iff_lt_mul hy]

/-- Go's quotient and rest, and the floor -/
theorem tdiv_parts (a b : Int) (hb : 0 < b) : b * a.tdiv b + a.tmod b = a ∧ -b < a.tmod b ∧ a.tmod b < b := by
  have h1 := Int.mul_tdiv_add_tmod a b
  have h2 := Int.tmod_lt_of_pos a hb
  have h3 : -b < a.tmod b := by
    have := Int.tmod_lt_of_pos (-a) hb
    rw [Int.neg_tmod] at this; omega
  exact ⟨h1, h3, h2⟩
theorem floor_t1 {a b : Int} (hb : 0 < b) (h : a.tmod b < 0) : a.tdiv b - 1 = a / b := by
  obtain ⟨h1, h2, h3⟩ := tdiv_parts a b hb
  have := (Int.ediv_emod_unique (a := a) (b := b) (r := a.tmod b + b) (q := a.tdiv b - 1) hb).2 ⟨by rw [Int.mul_sub]; omega, by omega, by omega⟩
  exact this.1.symm
theorem floor_t2 {a b : Int} (hb : 0 < b) (h : 0 ≤ a.tmod b) : a.tdiv b = a / b := by
  obtain ⟨h1, h2, h3⟩ := tdiv_parts a b hb
  have := (Int.ediv_emod_unique (a := a) (b := b) (r := a.tmod b) (q := a.tdiv b) hb).2 ⟨by omega, by omega, by omega⟩
  exact this.1.symm
theorem ediv_in {a b n : Int} (hb : 0 < b) (hn : 0 ≤ n) (h1 : -n ≤ a) (h2 : a ≤ n) : -n ≤ a / b ∧ a / b ≤ n := by
  refine ⟨(Int.le_ediv_iff_mul_le hb).2 ?_, ?_⟩
  · have : n * 1 ≤ n * b := Int.mul_le_mul_of_nonneg_left (by omega) hn
    rw [Int.neg_mul]; omega
  · have : a < (n + 1) * b := by
      have : (n + 1) * 1 ≤ (n + 1) * b := Int.mul_le_mul_of_nonneg_left (by omega) (by omega)
      omega
    have := (Int.ediv_lt_iff_lt_mul hb).2 this
    omega

def roundV (a b : Int) : Int :=
  if fitV b = 0 then 0 else if fitV b < 0 then (2 * -fitV a + -fitV b) / (2 * -fitV b) else (2 * fitV a + fitV b) / (2 * fitV b)
/-- a fraction, and one more if the rest is a half or more -/
theorem round_two {x y : Int} (hy : 0 < y) : (2 * x + y) / (2 * y) = if y ≤ 2 * (x - x / y * y) then x / y + 1 else x / y := by
  have h1 := Int.emod_nonneg x (show y ≠ 0 by omega)
  have h2 := Int.emod_lt_of_pos x hy
  have h3 := Int.emod_add_mul_ediv x y
  have h4 : x / y * y = y * (x / y) := Int.mul_comm _ _
  have e : x - x / y * y = x % y := by omega
  rw [e]
  have hq : ∀ q : Int, 0 ≤ 2 * x + y - q * (2 * y) → 2 * x + y - q * (2 * y) < 2 * y → (2 * x + y) / (2 * y) = q := by
    intro q a b
    have e2 : 2 * x + y = (2 * x + y - q * (2 * y)) + q * (2 * y) := by omega
    rw [e2, Int.add_mul_ediv_right _ _ (show (2 * y) ≠ 0 by omega), Int.ediv_eq_zero_of_lt a b]; omega
  by_cases h : y ≤ 2 * (x % y)
  · rw [if_pos h]
    refine hq _ ?_ ?_
    · have : (x / y + 1) * (2 * y) = 2 * (y * (x / y)) + 2 * y := by rw [Int.add_mul, Int.one_mul, ← h4, Int.mul_comm 2 y, ← Int.mul_assoc]; omega
      omega
    · have : (x / y + 1) * (2 * y) = 2 * (y * (x / y)) + 2 * y := by rw [Int.add_mul, Int.one_mul, ← h4, Int.mul_comm 2 y, ← Int.mul_assoc]; omega
      omega
  · rw [if_neg h]
    refine hq _ ?_ ?_
    · have : x / y * (2 * y) = 2 * (y * (x / y)) := by rw [← h4, Int.mul_comm 2 y, ← Int.mul_assoc]; omega
      omega
    · have : x / y * (2 * y) = 2 * (y * (x / y)) := by rw [← h4, Int.mul_comm 2 y, ← Int.mul_assoc]; omega
      omega

def totalV (l : List Int) : Int := l.foldl addV 0
theorem totalV_le (l : List Int) : -1099511627776 ≤ totalV l ∧ totalV l ≤ 1099511627776 := by
  have : ∀ (l : List Int) (a : Int), -1099511627776 ≤ a → a ≤ 1099511627776 → -1099511627776 ≤ l.foldl addV a ∧ l.foldl addV a ≤ 1099511627776 := by
    intro l
    induction l with
    | nil => intro a h1 h2; exact ⟨h1, h2⟩
    | cons x r ih => intro a _ _; exact ih _ (fitV_le _).1 (fitV_le _).2
  exact this l 0 (by omega) (by omega)
theorem totalV_take {l : List Int} {k : Nat} {x : Int} (h : l[k]? = some x) : totalV (l.take (k + 1)) = addV (totalV (l.take k)) x := by
  unfold totalV; rw [List.take_add_one, h, List.foldl_append]; rfl

def sortL (l : List Int) : List Int := l.mergeSort fun x y => decide (x ≤ y)
theorem sortL_perm (l : List Int) : (sortL l).Perm l := List.mergeSort_perm _ _
theorem sortL_len (l : List Int) : (sortL l).length = l.length := (sortL_perm l).length_eq
theorem sortL_sorted (l : List Int) : (sortL l).Pairwise (· ≤ ·) := by
  have := List.pairwise_mergeSort (le := fun x y : Int => decide (x ≤ y)) (fun a b c => by simp; omega) (fun a b => by simp; omega) l
  exact this.imp (by simp)
/-- one list alone is sorted and has these numbers -/
theorem sorted_one {a b : List Int} (h : a.Perm b) (ha : a.Pairwise (· ≤ ·)) (hb : b.Pairwise (· ≤ ·)) : a = b :=
  List.Perm.eq_of_pairwise (fun x y _ _ h1 h2 => Int.le_antisymm h1 h2) ha hb h
theorem sortL_of {a l : List Int} (h : a.Perm l) (ha : a.Pairwise (· ≤ ·)) : a = sortL l := sorted_one (h.trans (sortL_perm l).symm) ha (sortL_sorted l)
theorem sortL_congr {a b : List Int} (h : a.Perm b) : sortL a = sortL b := sortL_of ((sortL_perm a).trans h) (sortL_sorted a)

def sumL (l : List Int) : Int := l.foldl (· + ·) 0
theorem sumL_shift (l : List Int) : ∀ a, l.foldl (· + ·) a = a + sumL l := by
  induction l with
  | nil => intro a; simp [sumL]
  | cons x r ih => intro a; simp only [sumL, List.foldl_cons]; rw [ih, ih (0 + x)]; omega
theorem sumL_cons (x : Int) (r : List Int) : sumL (x :: r) = x + sumL r := by
  show r.foldl (· + ·) (0 + x) = _; rw [sumL_shift]; omega
theorem sumL_append (a b : List Int) : sumL (a ++ b) = sumL a + sumL b := by
  unfold sumL; rw [List.foldl_append, sumL_shift]; rfl
theorem sumL_take {l : List Int} {k : Nat} {x : Int} (h : l[k]? = some x) : sumL (l.take (k + 1)) = sumL (l.take k) + x := by
  rw [List.take_add_one, h, sumL_append]; simp [sumL]
theorem sumL_perm {a b : List Int} (h : a.Perm b) : sumL a = sumL b := by
  induction h with
  | nil => rfl
  | cons x _ ih => rw [sumL_cons, sumL_cons, ih]
  | swap x y l => rw [sumL_cons, sumL_cons, sumL_cons, sumL_cons]; omega
  | trans _ _ h1 h2 => exact h1.trans h2
theorem sumL_le {m : Int} : ∀ {l : List Int}, (∀ x ∈ l, x ≤ m) → sumL l ≤ m * l.length
  | [], _ => by simp [sumL]
  | x :: r, h => by
    have h1 := h x (by simp)
    have h2 := sumL_le (l := r) fun y hy => h y (List.mem_cons_of_mem _ hy)
    rw [sumL_cons, List.length_cons, Int.natCast_add, Int.mul_add]; omega
theorem sumL_ge {m : Int} : ∀ {l : List Int}, (∀ x ∈ l, m ≤ x) → m * l.length ≤ sumL l
  | [], _ => by simp [sumL]
  | x :: r, h => by
    have h1 := h x (by simp)
    have h2 := sumL_ge (l := r) fun y hy => h y (List.mem_cons_of_mem _ hy)
    rw [sumL_cons, List.length_cons, Int.natCast_add, Int.mul_add]; omega

def firstV (l : List Int) : List Int := (l.take 1000).map fitV
theorem firstV_len (l : List Int) : (firstV l).length = min 1000 l.length := by simp [firstV]
theorem firstV_le {l : List Int} {x : Int} (h : x ∈ firstV l) : -1099511627776 ≤ x ∧ x ≤ 1099511627776 := by
  obtain ⟨y, _, rfl⟩ := List.mem_map.1 h; exact fitV_le y
def meanV (l : List Int) : Int := if (firstV l).length = 0 then 0 else sumL (firstV l) / (firstV l).length
def medianV (l : List Int) : Int := if (firstV l).length = 0 then 0 else (sortL (firstV l)).getD ((firstV l).length / 2) 0
theorem first_sum_le (l : List Int) (k : Nat) : -1099511627776000 ≤ sumL ((firstV l).take k) ∧ sumL ((firstV l).take k) ≤ 1099511627776000 := by
  have hl : ((firstV l).take k).length ≤ 1000 := by rw [List.length_take, firstV_len]; omega
  have h1 := sumL_le (l := (firstV l).take k) (m := 1099511627776) fun x hx => (firstV_le (List.mem_of_mem_take hx)).2
  have h2 := sumL_ge (l := (firstV l).take k) (m := -1099511627776) fun x hx => (firstV_le (List.mem_of_mem_take hx)).1
  omega
theorem mean_perm {a b : List Int} (h : a.Perm b) (ha : a.length ≤ 1000) : meanV a = meanV b := by
  have hb : b.length ≤ 1000 := by rw [← h.length_eq]; exact ha
  have hp : (firstV a).Perm (firstV b) := by
    unfold firstV; rw [List.take_of_length_le ha, List.take_of_length_le hb]; exact h.map _
  unfold meanV
  rw [sumL_perm hp, hp.length_eq]
theorem median_perm {a b : List Int} (h : a.Perm b) (ha : a.length ≤ 1000) : medianV a = medianV b := by
  have hb : b.length ≤ 1000 := by rw [← h.length_eq]; exact ha
  have hp : (firstV a).Perm (firstV b) := by
    unfold firstV; rw [List.take_of_length_le ha, List.take_of_length_le hb]; exact h.map _
  unfold medianV
  rw [sortL_congr hp, hp.length_eq]
end Go.Proofs.Ytopncifebldklaa
