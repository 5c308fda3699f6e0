/- Which node is above another one (R.Up), and the law's 'below'; a tree whose leaves say one value. Conditions: as each lemma names. -/
import Derived.Test.YtopncifebldklaaPrune2
namespace Go.Proofs.Ytopncifebldklaa
set_option linter.unusedVariables false
set_option linter.unusedSimpArgs false
open Go.RowKit

theorem clashAt_mk {t : List Nd} : ∀ (m i : Nat), (∀ j, i ≤ j → j < i + m → 0 < j → ups t j = 1) → (clashAt t i m).2 = 0 := by
  intro m
  induction m with
  | zero => intro i _; rfl
  | succ m ih =>
    intro i h
    rw [clashAt, if_neg (fun h2 => h2.2 (h i (Nat.le_refl _) (by omega) h2.1))]
    exact ih (i + 1) fun j h1 h2 h3 => h j (by omega) (by omega) h3
theorem treeE_right {t : List Nd} {fe : Int} (h : Right t fe) : treeE t fe = 0 := by
  unfold treeE treeC
  have h1 := h.most
  have h2 := h.pos
  have h3 := h.fe0
  have h4 := h.fe8
  have h5 := h.deep
  rw [if_neg (by omega), if_neg (by omega), if_neg (by omega), if_neg (by omega), badAt_mk t 0 (fun j n hj => by rw [Nat.zero_add]; exact h.node j n hj), if_pos rfl,
    if_pos (clashAt_mk t.length 0 fun j _ hj h0 => h.one j h0 (by omega)), if_neg (by omega)]

/-- each leaf says v -/
def sayV (v : Int) (n : Nd) : Nd := if n.f = -1 then ⟨n.f, n.c, n.l, n.r, n.less, v⟩ else n
theorem sayV_f (v : Int) (n : Nd) : (sayV v n).f = n.f := by unfold sayV; split <;> rfl
theorem sayV_l (v : Int) (n : Nd) : (sayV v n).l = n.l := by unfold sayV; split <;> rfl
theorem sayV_r (v : Int) (n : Nd) : (sayV v n).r = n.r := by unfold sayV; split <;> rfl
theorem nodeE_say {len i : Nat} {fe v : Int} {n : Nd} (h : nodeE len i fe n = 0) (h1 : -1000000 ≤ v) (h2 : v ≤ 1000000) : nodeE len i fe (sayV v n) = 0 := by
  by_cases hf : n.f = -1
  · rcases node_of h with ⟨_, _, _, hc, hl, hr, hs⟩ | h3
    · unfold sayV
      rw [if_pos hf]
      unfold nodeE
      dsimp only
      rw [if_pos hf, if_neg (by omega), if_neg (by omega), if_neg (by omega), if_neg (by omega), if_neg (by omega), if_neg (by simp [hs])]
    · omega
  · unfold sayV; rw [if_neg hf]; exact h
theorem kid_say (v : Int) (n : Nd) (j : Nat) : kid (sayV v n) j = kid n j := by unfold kid; rw [sayV_f, sayV_l, sayV_r]
theorem ups_say (v : Int) : ∀ (t : List Nd) (j : Nat), ups (t.map (sayV v)) j = ups t j := by
  intro t
  induction t with
  | nil => intro j; rfl
  | cons n r ih => intro j; simp only [List.map_cons, ups, kid_say, ih]
theorem deps_say (v : Int) : ∀ (t : List Nd) (i : Nat), deps i (t.map (sayV v)) = deps i t := by
  intro t
  induction t with
  | nil => intro i; rfl
  | cons n r ih => intro i; simp only [List.map_cons, deps, sayV_f, sayV_l, sayV_r, ih]
theorem Right.say {t : List Nd} {fe v : Int} (h : Right t fe) (h1 : -1000000 ≤ v) (h2 : v ≤ 1000000) : Right (t.map (sayV v)) fe := by
  refine ⟨by rw [List.length_map]; exact h.pos, by rw [List.length_map]; exact h.most, h.fe0, h.fe8, ?_, ?_, by unfold dep; rw [deps_say]; exact h.deep⟩
  · intro i n hi
    rw [List.getElem?_map] at hi
    obtain ⟨m, hm, rfl⟩ := Option.map_eq_some_iff.1 hi
    rw [List.length_map]
    exact nodeE_say (h.node i m hm) h1 h2
  · intro i h3 h4
    rw [List.length_map] at h4
    rw [ups_say]
    exact h.one i h3 h4
theorem Right.sayOne {t : List Nd} {fe v : Int} (h : Right t fe) (h1 : -1000000 ≤ v) (h2 : v ≤ 1000000) : ∃ x, prunedR (t.map (sayV v)) fe = [x] ∧ x.v = v := by
  have hr := h.say h1 h2
  obtain ⟨n, rfl⟩ : ∃ n : Nat, fe = n := ⟨fe.toNat, by have := h.fe0; omega⟩
  unfold prunedR
  rw [if_pos (treeE_right hr)]
  refine hr.prunedOne fun j y hj hf => ?_
  rw [List.getElem?_map] at hj
  obtain ⟨m, hm, rfl⟩ := Option.map_eq_some_iff.1 hj
  rw [sayV_f] at hf
  unfold sayV
  rw [if_pos hf]

/-- what is laid has its kids behind -/
theorem layK_kids : ∀ (k : Kt) (n : Nat), k.Ok → ∀ (j : Nat) x, (layK n k)[j]? = some x → x.f ≠ -1 → (n : Int) + j < x.l ∧ x.l < (n : Int) + k.size ∧ (n : Int) + j < x.r ∧ x.r < (n : Int) + k.size := by
  intro k
  induction k with
  | leaf y =>
    intro n hk j x hx hf
    cases j with
    | zero => simp [layK] at hx; subst hx; exact absurd (hk.2 y (by simp [Kt.leaves])) hf
    | succ j => simp [layK] at hx
  | node y a b ia ib =>
    intro n hk j x hx hf
    have hsa := a.size_pos
    have hsb := b.size_pos
    cases j with
    | zero => simp [layK] at hx; subst hx; simp only [Kt.size]; omega
    | succ j =>
      rw [layK, List.getElem?_cons_succ] at hx
      simp only [Kt.size]
      by_cases hj : j < a.size
      · rw [List.getElem?_append_left (by rw [layK_len]; exact hj)] at hx
        have := ia (n + 1) hk.left j x hx hf
        omega
      · rw [List.getElem?_append_right (by rw [layK_len]; omega), layK_len] at hx
        have := ib (n + 1 + a.size) hk.right (j - a.size) x hx hf
        omega
theorem layK_behind {k : Kt} (h : k.Ok) : Behind (layK 0 k) := fun i x hx hf => by
  have := layK_kids k 0 h i x hx hf
  rw [layK_len]
  omega

/-- the node above one -/
def upAt (at_ : Int) : Nat → List Nd → Int
  | _, [] => -1
  | k, n :: r => if n.f ≠ -1 ∧ (n.l = at_ ∨ n.r = at_) then (k : Int) else upAt at_ (k + 1) r
theorem upAt_drop {t : List Nd} {at_ : Int} {k : Nat} {x : Nd} (h : t[k]? = some x) : upAt at_ k (t.drop k) = if x.f ≠ -1 ∧ (x.l = at_ ∨ x.r = at_) then (k : Int) else upAt at_ (k + 1) (t.drop (k + 1)) := by
  obtain ⟨hk, e⟩ := List.getElem?_eq_some_iff.1 h
  rw [List.drop_eq_getElem_cons hk, e, upAt]
theorem upAt_par {at_ : Nat} : ∀ (l : List Nd) (k : Nat), upAt at_ k l = -1 ∨ ∃ j x, l[j]? = some x ∧ x.f ≠ -1 ∧ (x.l = (at_ : Int) ∨ x.r = (at_ : Int)) ∧ upAt at_ k l = ((k + j : Nat) : Int) := by
  intro l
  induction l with
  | nil => intro k; exact .inl rfl
  | cons n r ih =>
    intro k
    rw [upAt]
    by_cases h : n.f ≠ -1 ∧ (n.l = (at_ : Int) ∨ n.r = (at_ : Int))
    · rw [if_pos h]; exact .inr ⟨0, n, rfl, h.1, h.2, rfl⟩
    · rw [if_neg h]
      rcases ih (k + 1) with h1 | ⟨j, x, h1, h2, h3, h4⟩
      · exact .inl h1
      · exact .inr ⟨j + 1, x, by simpa using h1, h2, h3, by rw [h4]; omega⟩
theorem up_par {t : List Nd} {at_ : Nat} : upAt at_ 0 t = -1 ∨ ∃ j : Nat, Par t j at_ ∧ upAt at_ 0 t = j := by
  rcases upAt_par t 0 (at_ := at_) with h | ⟨j, x, h1, h2, h3, h4⟩
  · exact .inl h
  · exact .inr ⟨j, ⟨x, h1, h2, h3⟩, by rw [h4]; omega⟩

def BelowPost (t : List Nd) (i j : Nat) (e : Ending) : Prop := ∃ b, e = .returned (.bool b) ∧ (b = true → Chain t i j)
end Go.Proofs.Ytopncifebldklaa
