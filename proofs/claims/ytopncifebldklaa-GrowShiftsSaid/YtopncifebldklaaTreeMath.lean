/- Plain laws of trees: how many leaves, how deep; no program in sight. Conditions: a tree that is right. -/
import Derived.Test.YtopncifebldklaaTreeOps
namespace Go.Proofs.Ytopncifebldklaa
set_option linter.unusedVariables false
set_option linter.unusedSimpArgs false
open Go.RowKit

/-- a row of the call's own stays so where all that was there stays -/
theorem own_below {w w' : World} {base : Nat} {e : TypeId} {size n : Nat} {v : Value} {xs : List Value} (h : w.ownsRow base e size v n xs) (hb : Below w.heap.size w w') : w'.ownsRow base e size v n xs := by
  refine ⟨h.1, ?_⟩
  rcases h.2 with hn | ⟨g, cap, cur, rfl, hg, hh, rest⟩
  · exact .inl hn
  · exact .inr ⟨g, cap, cur, rfl, hg, (hb.block g (Array.getElem?_eq_some_iff.1 hh).1).trans hh, rest⟩

/-! ### sums -/
def sumTo (f : Nat → Nat) : Nat → Nat
  | 0 => 0
  | n + 1 => sumTo f n + f n
theorem sumTo_add (f g : Nat → Nat) (n : Nat) : sumTo (fun j => f j + g j) n = sumTo f n + sumTo g n := by
  induction n with
  | zero => rfl
  | succ n ih => simp only [sumTo, ih]; omega
theorem sumTo_congr {f g : Nat → Nat} {n : Nat} (h : ∀ j, j < n → f j = g j) : sumTo f n = sumTo g n := by
  induction n with
  | zero => rfl
  | succ n ih => rw [sumTo, sumTo, ih (fun j hj => h j (by omega)), h n (by omega)]
theorem sumTo_zero (n : Nat) : sumTo (fun _ => 0) n = 0 := by
  induction n with
  | zero => rfl
  | succ n ih => rw [sumTo, ih]
theorem sumTo_one (a : Nat) (g : Nat → Nat) (n : Nat) : sumTo (fun j => (if a = j then 1 else 0) * g j) n = if a < n then g a else 0 := by
  induction n with
  | zero => simp [sumTo]
  | succ n ih =>
    rw [sumTo, ih]
    by_cases h1 : a = n
    · subst h1; simp
    · by_cases h2 : a < n
      · rw [if_pos h2, if_neg h1, if_pos (by omega)]; omega
      · rw [if_neg h2, if_neg h1, if_neg (by omega)]; omega
theorem sumTo_one_int (a : Int) (h0 : 0 ≤ a) (g : Nat → Nat) (n : Nat) (hn : a < n) : sumTo (fun j => (if a = (j : Int) then 1 else 0) * g j) n = g a.toNat := by
  have : sumTo (fun j => (if a = (j : Int) then 1 else 0) * g j) n = sumTo (fun j => (if a.toNat = j then 1 else 0) * g j) n := by
    refine sumTo_congr fun j _ => ?_
    by_cases h : a = (j : Int)
    · rw [if_pos h, if_pos (by omega)]
    · rw [if_neg h, if_neg (by omega)]
  rw [this, sumTo_one, if_pos (by omega)]
/-- what the nodes of a list sum up of g over what is below them -/
def kids (g : Nat → Nat) : List Nd → Nat
  | [] => 0
  | n :: r => (if n.f = -1 then 0 else g n.l.toNat + g n.r.toNat) + kids g r
theorem kids_eq (g : Nat → Nat) (N : Nat) : ∀ t : List Nd, (∀ n ∈ t, n.f ≠ -1 → 0 ≤ n.l ∧ n.l < N ∧ 0 ≤ n.r ∧ n.r < N) → sumTo (fun j => ups t j * g j) N = kids g t := by
  intro t
  induction t with
  | nil => intro _; simp [ups, kids, sumTo_zero]
  | cons n r ih =>
    intro h
    rw [kids, ← ih (fun x hx => h x (List.mem_cons_of_mem _ hx))]
    have e : sumTo (fun j => ups (n :: r) j * g j) N = sumTo (fun j => kid n j * g j) N + sumTo (fun j => ups r j * g j) N := by
      rw [← sumTo_add]
      exact sumTo_congr fun j _ => by rw [ups, Nat.add_mul]
    rw [e]
    congr 1
    by_cases hf : n.f = -1
    · rw [if_pos hf]
      rw [sumTo_congr (g := fun _ => 0) (fun j _ => by unfold kid; rw [if_pos hf, Nat.zero_mul]), sumTo_zero]
    · rw [if_neg hf]
      obtain ⟨h1, h2, h3, h4⟩ := h n (List.mem_cons_self ..) hf
      rw [sumTo_congr (g := fun j => (if n.l = (j : Int) then 1 else 0) * g j + (if n.r = (j : Int) then 1 else 0) * g j) (fun j _ => by unfold kid; rw [if_neg hf, Nat.add_mul]), sumTo_add,
        sumTo_one_int _ h1 g N h2, sumTo_one_int _ h3 g N h4]

theorem ups_first {t : List Nd} (h : ∀ n ∈ t, n.f ≠ -1 → 0 < n.l ∧ 0 < n.r) : ups t 0 = 0 := by
  induction t with
  | nil => rfl
  | cons n r ih =>
    rw [ups, ih (fun x hx => h x (List.mem_cons_of_mem _ hx))]
    unfold kid
    by_cases hf : n.f = -1
    · rw [if_pos hf]
    · have := h n (List.mem_cons_self ..) hf
      rw [if_neg hf, if_neg (by omega), if_neg (by omega)]
theorem mem_at {t : List Nd} {n : Nd} (h : n ∈ t) : ∃ i : Nat, t[i]? = some n := List.mem_iff_getElem?.1 h
/-- of a right tree: all nodes but the root are below one -/
theorem Right.sum {t : List Nd} {fe : Int} (h : Right t fe) (g : Nat → Nat) : sumTo g t.length = g 0 + kids g t := by
  have hb := h.behind
  rw [← kids_eq g t.length t (fun n hn hf => by obtain ⟨i, hi⟩ := mem_at hn; obtain ⟨a, b, c, d⟩ := hb i n hi hf; exact ⟨by omega, b, by omega, d⟩)]
  have h0 := ups_first (t := t) (fun n hn hf => by obtain ⟨i, hi⟩ := mem_at hn; obtain ⟨a, b, c, d⟩ := hb i n hi hf; exact ⟨by omega, by omega⟩)
  have key : ∀ N : Nat, 0 < N → N ≤ t.length → sumTo g N = g 0 + sumTo (fun j => ups t j * g j) N := by
    intro N
    induction N with
    | zero => intro h; omega
    | succ N ih =>
      intro _ hN
      rcases Nat.eq_zero_or_pos N with rfl | hp
      · simp [sumTo, h0]
      · rw [sumTo, ih hp (by omega), sumTo, h.one N hp (by omega)]; omega
  exact key _ h.pos (Nat.le_refl _)

/-! ### how many leaves are below a node -/
def cnts (i : Nat) : List Nd → List Nat
  | [] => []
  | n :: r => (if n.f = -1 then 1 else (cnts (i + 1) r).getD (n.l.toNat - (i + 1)) 0 + (cnts (i + 1) r).getD (n.r.toNat - (i + 1)) 0) :: cnts (i + 1) r
def cnt (t : List Nd) (j : Nat) : Nat := (cnts 0 t).getD j 0
theorem cnts_len : ∀ (t : List Nd) (i : Nat), (cnts i t).length = t.length := by
  intro t
  induction t with
  | nil => intro i; rfl
  | cons n r ih => intro i; rw [cnts, List.length_cons, ih, List.length_cons]
theorem cnts_drop : ∀ (t : List Nd) (i k : Nat), (cnts i t).drop k = cnts (i + k) (t.drop k) := by
  intro t
  induction t with
  | nil => intro i k; simp [cnts]
  | cons n r ih =>
    intro i k
    cases k with
    | zero => rfl
    | succ k => rw [cnts, List.drop_succ_cons, ih, List.drop_succ_cons, show i + 1 + k = i + (k + 1) by omega]
theorem cnt_at {t : List Nd} {i : Nat} {n : Nd} (h : t[i]? = some n) (hl : n.f ≠ -1 → (i : Int) < n.l) (hr : n.f ≠ -1 → (i : Int) < n.r) : cnt t i = if n.f = -1 then 1 else cnt t n.l.toNat + cnt t n.r.toNat := by
  have h1 := cnts_drop t 0 i
  rw [Nat.zero_add, drop_at h, cnts] at h1
  have hi : i < (cnts 0 t).length := by rw [cnts_len]; exact (List.getElem?_eq_some_iff.1 h).1
  have h2 : (cnts 0 t)[i]? = some ((cnts 0 t)[i]) := List.getElem?_eq_getElem hi
  have h3 := drop_at h2
  rw [h1] at h3
  injection h3 with h4 h5
  unfold cnt
  rw [List.getD_eq_getElem?_getD, h2, Option.getD_some, ← h4]
  by_cases hf : n.f = -1
  · rw [if_pos hf, if_pos hf]
  · rw [if_neg hf, if_neg hf]
    have key : ∀ m : Nat, i < m → (cnts (i + 1) (t.drop (i + 1))).getD (m - (i + 1)) 0 = (cnts 0 t).getD m 0 := by
      intro m hm
      rw [h5, List.getD_eq_getElem?_getD, List.getElem?_drop, List.getD_eq_getElem?_getD, show i + 1 + (m - (i + 1)) = m by omega]
    rw [key _ (by have := hl hf; omega), key _ (by have := hr hf; omega)]

theorem cnt_dep {t : List Nd} (hb : Behind t) : ∀ (m i : Nat), i < t.length → t.length ≤ i + m → dep t i + 1 ≤ cnt t i ∧ cnt t i ≤ 2 ^ dep t i := by
  intro m
  induction m with
  | zero => intro i h1 h2; omega
  | succ m ih =>
    intro i h1 h2
    have hn : t[i]? = some t[i] := List.getElem?_eq_getElem h1
    have hx := fun hf => hb i _ hn hf
    rw [dep_at hn (fun hf => (hx hf).1) (fun hf => (hx hf).2.2.1), cnt_at hn (fun hf => (hx hf).1) (fun hf => (hx hf).2.2.1)]
    by_cases hf : (t[i]).f = -1
    · rw [if_pos hf, if_pos hf]; exact ⟨Nat.le_refl _, Nat.le_refl _⟩
    · rw [if_neg hf, if_neg hf]
      obtain ⟨a, b, c, d⟩ := hx hf
      obtain ⟨p1, p2⟩ := ih (t[i]).l.toNat (by omega) (by omega)
      obtain ⟨q1, q2⟩ := ih (t[i]).r.toNat (by omega) (by omega)
      generalize dep t (t[i]).l.toNat = x at *
      generalize dep t (t[i]).r.toNat = y at *
      have e1 : 2 ^ x ≤ 2 ^ max x y := Nat.pow_le_pow_right (by omega) (Nat.le_max_left _ _)
      have e2 : 2 ^ y ≤ 2 ^ max x y := Nat.pow_le_pow_right (by omega) (Nat.le_max_right _ _)
      have e3 : 2 ^ (1 + max x y) = 2 ^ max x y + 2 ^ max x y := by rw [Nat.add_comm, Nat.pow_succ]; omega
      refine ⟨by omega, by omega⟩

def nLeaf : List Nd → Nat
  | [] => 0
  | n :: r => (if n.f = -1 then 1 else 0) + nLeaf r
theorem leavesFrom_count (t : List Nd) : ∀ i, (leavesFrom i t).length = nLeaf t := by
  induction t with
  | nil => intro i; rfl
  | cons n r ih =>
    intro i
    rw [leavesFrom, nLeaf]
    split <;> simp [ih]; omega
theorem kids_const (t : List Nd) : kids (fun _ => 1) t + 2 * nLeaf t = 2 * t.length := by
  induction t with
  | nil => rfl
  | cons n r ih => rw [kids, nLeaf, List.length_cons]; split <;> omega
theorem sumTo_const (n : Nat) : sumTo (fun _ => 1) n = n := by
  induction n with
  | zero => rfl
  | succ n ih => rw [sumTo, ih]
/-- one more are leaves than ask -/
theorem Right.halves {t : List Nd} {fe : Int} (h : Right t fe) : 2 * nLeaf t = t.length + 1 := by
  have h1 := h.sum (fun _ => 1)
  rw [sumTo_const] at h1
  have h2 := kids_const t
  omega
theorem sum_list (g : Nat → Nat) : ∀ (t : List Nd) (i : Nat), sumTo (fun j => g (i + j)) t.length + sumTo g i = sumTo g (i + t.length) := by
  intro t
  induction t with
  | nil => intro i; simp [sumTo]
  | cons n r ih =>
    intro i
    rw [List.length_cons, sumTo, show i + (r.length + 1) = (i + r.length) + 1 by omega, sumTo, ← ih i]
    omega
/-- all leaves are below the root -/
theorem Right.all_below {t : List Nd} {fe : Int} (h : Right t fe) : nLeaf t = cnt t 0 := by
  have hb := h.behind
  have h1 := h.sum (cnt t)
  have key : ∀ k : Nat, k ≤ t.length → sumTo (cnt t) k = nLeaf (t.take k) + kids (cnt t) (t.take k) := by
    intro k
    induction k with
    | zero => intro _; simp [sumTo, nLeaf, kids]
    | succ k ih =>
      intro hk
      have hn : t[k]? = some t[k] := List.getElem?_eq_getElem (by omega)
      have hx := fun hf => hb k _ hn hf
      have ap : ∀ (a : List Nd) (n : Nd), nLeaf (a ++ [n]) = nLeaf a + (if n.f = -1 then 1 else 0) ∧ kids (cnt t) (a ++ [n]) = kids (cnt t) a + (if n.f = -1 then 0 else cnt t n.l.toNat + cnt t n.r.toNat) := by
        intro a n
        induction a with
        | nil => simp [nLeaf, kids]
        | cons y a ih2 => rw [List.cons_append, nLeaf, kids, ih2.1, ih2.2, nLeaf, kids]; omega
      rw [sumTo, ih (by omega), take_next hn, (ap _ _).1, (ap _ _).2, cnt_at hn (fun hf => (hx hf).1) (fun hf => (hx hf).2.2.1)]
      split <;> omega
  have h2 := key t.length (Nat.le_refl _)
  rw [List.take_length] at h2
  omega
theorem Right.bounds {t : List Nd} {fe : Int} (h : Right t fe) : dep t 0 + 1 ≤ nLeaf t ∧ nLeaf t ≤ 2 ^ dep t 0 := by
  rw [h.all_below]
  exact cnt_dep h.behind t.length 0 h.pos (by omega)
end Go.Proofs.Ytopncifebldklaa
