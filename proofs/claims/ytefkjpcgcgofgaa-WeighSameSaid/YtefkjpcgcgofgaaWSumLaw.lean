/- WeighSame, plain: how many nodes ask, of a grove and of it pruned. Conditions: as each lemma names. -/
import Derived.Test.YtefkjpcgcgofgaaWUses
import Derived.Test.YtefkjpcgcgofgaaPruneG
import Derived.Test.YtefkjpcgcgofgaaKinUp
namespace Go.Proofs.Ytefkjpcgcgofgaa
set_option linter.unusedVariables false
set_option linter.unusedSimpArgs false
open Go.RowKit

def sumU (us : List Us) : Int := (us.map Us.n).sum
def askN (t : List Nd) : Nat := (t.filter fun x => x.f != -1).length
def askL (L : List (List Nd)) : Nat := (L.map askN).sum
theorem sumU_app (a b : List Us) : sumU (a ++ b) = sumU a + sumU b := by unfold sumU; rw [List.map_append, List.sum_append]
theorem sumU_set {T : List Us} {f : Nat} {u v : Us} (h : T[f]? = some u) : sumU (T.set f v) = sumU T - u.n + v.n := by
  induction T generalizing f with
  | nil => simp at h
  | cons x r ih =>
    cases f with
    | zero =>
      simp at h
      subst h
      simp [sumU]
      omega
    | succ f =>
      have := ih (f := f) (by simpa using h)
      simp [sumU] at this ⊢
      omega
theorem sumU_count {T : List Us} {t : List Nd} (hT : T.length = 8) (hf : ∀ x ∈ t, x.f ≠ -1 → 0 ≤ x.f ∧ x.f < 8) : sumU (countT T t) = sumU T + askN t := by
  induction t generalizing T with
  | nil => simp [countT, askN]
  | cons x r ih =>
    have h1 : countT T (x :: r) = countT (oneT T x) r := rfl
    rw [h1, ih (by rw [oneT_len]; exact hT) (fun y hy => hf y (List.mem_cons_of_mem _ hy))]
    unfold askN oneT
    rw [List.filter_cons]
    by_cases hx : x.f = -1
    · simp [hx]
    · have hfx := hf x (List.mem_cons_self ..) hx
      have hu : T[x.f.toNat]? = some (T[x.f.toNat]'(by omega)) := List.getElem?_eq_getElem (by omega)
      rw [if_neg hx]
      unfold stepT
      rw [hu]
      dsimp only
      rw [sumU_set hu]
      have e : (x.f != -1) = true := by simpa using hx
      rw [if_pos e, List.length_cons]
      dsimp only
      omega
theorem sumU_table {L : List (List Nd)} (hf : ∀ t ∈ L, ∀ x ∈ t, x.f ≠ -1 → 0 ≤ x.f ∧ x.f < 8) : sumU (tableOf L) = askL L := by
  unfold tableOf
  have : ∀ (L : List (List Nd)) (T : List Us), T.length = 8 → (∀ t ∈ L, ∀ x ∈ t, x.f ≠ -1 → 0 ≤ x.f ∧ x.f < 8) → sumU (L.foldl countT T) = sumU T + askL L := by
    intro L
    induction L with
    | nil => intro T _ _; simp [askL]
    | cons t r ih =>
      intro T hT h
      rw [List.foldl_cons, ih _ (by rw [countT_len]; exact hT) (fun u hu => h u (List.mem_cons_of_mem _ hu)), sumU_count hT (h t (List.mem_cons_self ..))]
      simp [askL]
      omega
  rw [this L zeroT rfl hf]
  simp [sumU, zeroT]
theorem sumU_perm {a b : List Us} (h : a.Perm b) : sumU a = sumU b := by
  induction h with
  | nil => rfl
  | cons x _ ih => simp [sumU] at ih ⊢; omega
  | swap x y l => simp [sumU]; omega
  | trans _ _ i1 i2 => exact i1.trans i2
theorem sumU_used {T : List Us} (h : ∀ u ∈ T, 0 ≤ u.n) : sumU (usedT T) = sumU T := by
  unfold usedT
  induction T with
  | nil => rfl
  | cons x r ih =>
    have h1 := ih (fun u hu => h u (List.mem_cons_of_mem _ hu))
    have h2 := h x (List.mem_cons_self ..)
    rw [List.filter_cons]
    by_cases hx : 0 < x.n
    · rw [if_pos (by simpa using hx)]
      simp [sumU] at h1 ⊢
      omega
    · rw [if_neg (by simpa using hx)]
      simp [sumU] at h1 ⊢
      omega
theorem tableOf_small {L : List (List Nd)} (h : ∀ t ∈ L, t.length ≤ 63) : Small (tableOf L) (63 * L.length) := by
  unfold tableOf
  have : ∀ (L : List (List Nd)) (T : List Us) (b : Int), Small T b → (∀ t ∈ L, t.length ≤ 63) → Small (L.foldl countT T) (b + 63 * L.length) := by
    intro L
    induction L with
    | nil => intro T b h _; simpa using h
    | cons t r ih =>
      intro T b h h2
      rw [List.foldl_cons]
      have h3 := h2 t (List.mem_cons_self ..)
      refine (ih _ (b + 63) ((h.many t).more (by omega)) (fun u hu => h2 u (List.mem_cons_of_mem _ hu))).more ?_
      simp
      omega
  have := this L zeroT 0 (fun u hu => by simp [zeroT] at hu; subst hu; decide) h
  rwa [Int.zero_add] at this
theorem usesL_mem {L : List (List Nd)} {u : Us} (h : u ∈ usesL L) : u ∈ tableOf L := by
  unfold usesL listT at h
  have := (sortU_perm _).mem_iff.1 h
  exact (List.mem_filter.1 this).1
theorem usesL_len (L : List (List Nd)) : (usesL L).length ≤ 8 := by
  unfold usesL listT
  rw [sortU_len]
  have := usedT_len (tableOf L)
  rw [tableOf_len] at this
  exact this
theorem usesL_sum {L : List (List Nd)} (hf : ∀ t ∈ L, ∀ x ∈ t, x.f ≠ -1 → 0 ≤ x.f ∧ x.f < 8) (h63 : ∀ t ∈ L, t.length ≤ 63) : sumU (usesL L) = askL L := by
  unfold usesL listT
  rw [sumU_perm (sortU_perm _), sumU_used (fun u hu => (tableOf_small h63 u hu).1), sumU_table hf]
theorem ask_leaf : ∀ t : List Nd, askN t + nLeaf t = t.length := by
  intro t
  induction t with
  | nil => rfl
  | cons x r ih =>
    have hn : nLeaf (x :: r) = (if x.f = -1 then 1 else 0) + nLeaf r := rfl
    unfold askN at ih ⊢
    rw [hn, List.filter_cons]
    by_cases hx : x.f = -1
    · simp [hx]; omega
    · have e : (x.f != -1) = true := by simpa using hx
      rw [if_pos e, if_neg hx]
      simp only [List.length_cons]
      omega
theorem ask_pruned {t : List Nd} {n : Nat} (h : Right t n) : askN (prunedV t n) ≤ askN t := by
  have h1 := ask_leaf t
  have h2 := ask_leaf (prunedV t n)
  have h3 := h.halves
  have h4 := (h.pruned n).halves
  have h5 := h.prunedLess n
  omega
theorem askL_pruned {L : List (List Nd)} {n : Nat} (h : ∀ t ∈ L, Right t n) : askL (L.map fun t => prunedV t n) ≤ askL L := by
  unfold askL
  induction L with
  | nil => exact Nat.le_refl _
  | cons t r ih =>
    have h1 := ih (fun u hu => h u (List.mem_cons_of_mem _ hu))
    have h2 := ask_pruned (h t (List.mem_cons_self ..))
    simp only [List.map_cons, List.sum_cons]
    omega
theorem treesE_zero {fe : Int} : ∀ (L : List (List Nd)), (∀ t ∈ L, treeE t fe = 0) → treesE fe L = 0 := by
  intro L
  induction L with
  | nil => intro _; rfl
  | cons t r ih =>
    intro h
    rw [treesE, if_pos (h t (List.mem_cons_self ..))]
    exact ih (fun u hu => h u (List.mem_cons_of_mem _ hu))
theorem pruned_grove {g p : Gv} {n : Nat} (hg : g.e = 0) (hn : g.f = n) (h1 : p.f = g.f) (h2 : p.way = g.way) (h3 : p.ws = g.ws) (h4 : p.trees = g.trees.map fun t => prunedV t n) : p.e = 0 := by
  have hG := groveE_right hg
  have hRt : ∀ t ∈ g.trees, Right t n := fun t ht => by
    obtain ⟨r, hr, rfl⟩ := List.mem_map.1 ht
    have := right_of (hG.trees r hr)
    rwa [hn] at this
  have hl : p.trees.length = g.trees.length := by rw [h4, List.length_map]
  have hz : treesE p.f p.trees = 0 := treesE_zero _ (fun t ht => by
    rw [h4] at ht
    obtain ⟨s, hs, rfl⟩ := List.mem_map.1 ht
    rw [h1, hn]
    exact treeE_right ((hRt s hs).pruned n))
  have hgz : treesE g.f g.trees = 0 := treesE_zero _ (fun t ht => by
    rw [hn]; exact treeE_right (hRt t ht))
  unfold Gv.e at hg ⊢
  unfold groveE at hg ⊢
  rw [h1, h2, h3, hl]
  rw [h1] at hz
  rw [hgz] at hg
  rw [hz]
  exact hg
end Go.Proofs.Ytefkjpcgcgofgaa
