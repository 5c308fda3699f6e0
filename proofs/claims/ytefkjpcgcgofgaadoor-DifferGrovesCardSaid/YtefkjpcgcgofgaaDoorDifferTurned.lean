/- DifferTurned: the plain law and the walk. Conditions: arguments read as lists. -/
import Derived.Test.YtefkjpcgcgofgaaDoorRegion
namespace Go.Proofs.YtefkjpcgcgofgaaDoor
set_option linter.unusedVariables false
set_option linter.unusedSimpArgs false
open Go.RowKit
open Classical in
/-- in how many pairs: either way round -/
noncomputable def cnt2 {α β : Type} (c : α → β → Prop) (L : List α) (M : List β) : Nat := (L.map fun i => (M.filter fun k => decide (c i k)).length).sum
open Classical in
theorem cnt2_turn {α β : Type} (c : α → β → Prop) (M : List β) : ∀ L : List α, cnt2 c L M = cnt2 (fun k i => c i k) M L := by
  intro L
  induction L with
  | nil => unfold cnt2; induction M with
    | nil => rfl
    | cons k r ih => simpa using ih
  | cons i r ih =>
    have h1 : cnt2 c (i :: r) M = (M.filter fun k => decide (c i k)).length + cnt2 c r M := by unfold cnt2; simp
    have h2 : ∀ M : List β, cnt2 (fun k i => c i k) M (i :: r) = (M.filter fun k => decide (c i k)).length + cnt2 (fun k i => c i k) M r := by
      intro M
      induction M with
      | nil => rfl
      | cons k s ihs =>
        unfold cnt2 at ihs ⊢
        simp only [List.map_cons, List.sum_cons, List.filter_cons]
        by_cases h : c i k
        · simp only [h, decide_true, if_true, List.length_cons] at ihs ⊢
          simp only [List.filter_cons] at ihs
          omega
        · simp only [h, decide_false, Bool.false_eq_true, if_false] at ihs ⊢
          simp only [List.filter_cons] at ihs
          omega
    rw [h1, h2, ih]

/-- some row comes to both leaves, and their values differ -/
def Hit (a b : List Nd) (n i k : Nat) : Prop := valAt a i ≠ valAt b k ∧ ∃ r, inSp r (wideL n) ∧ leafOf a r = i ∧ leafOf b r = k
open Classical in
theorem pairsAt_count {a b : List Nd} {n : Nat} (ha : Right a n) (hb : Right b n) (p : Nat × List Sp) (hp : p ∈ lv a a.length 0 (wideL n)) :
    (pairsAt a b p).length = ((idx b b.length 0).filter (fun k => decide (Hit a b n p.1 k))).length := by
  have hpl : p.2.length = n := by rw [lv_length _ _ _ p hp, wide_len]
  have hlow := lv_low a.length 0 (wideL n) (wide_low n) p hp
  have key : ∀ q ∈ lv b b.length 0 p.2, (meets a b p.1 q = true ↔ Hit a b n p.1 q.1) := by
    intro q hq
    unfold meets Hit
    rw [Bool.and_eq_true, bne_iff_ne]
    constructor
    · rintro ⟨h1, h2⟩
      have hr := pick_in (wf_low (lv_low b.length 0 p.2 hlow q hq)) h1
      obtain ⟨h3, h4⟩ := lv_to hb.asks _ _ _ _ hpl q hq hr
      obtain ⟨h5, h6⟩ := lv_to ha.asks _ _ _ _ (wide_len n) p hp h3
      exact ⟨h2, _, h5, h6, h4⟩
    · rintro ⟨h2, r, h5, h6, h4⟩
      obtain ⟨p', hp', h7, h8⟩ := lv_of ha.asks ha.behind r a.length 0 (wideL n) (wide_len n) ha.pos (by omega) h5
      have := lv_one ha _ _ _ p' hp' p hp (by rw [← h8]; exact h6)
      subst this
      obtain ⟨q', hq', h9, h10⟩ := lv_of hb.asks hb.behind r b.length 0 p'.2 hpl hb.pos (by omega) h7
      have := lv_one hb _ _ _ q' hq' q hq (by rw [← h10]; exact h4)
      subst this
      exact ⟨inSp_any h9 (fun _ _ => trivial), h2⟩
  unfold pairsAt
  by_cases hany : anyB p.2 = true
  · rw [if_pos hany, List.length_map, ← lv_idx b b.length 0 p.2, List.filter_map, List.length_map]
    congr 1
    refine List.filter_congr fun q hq => ?_
    rw [Bool.eq_iff_iff, key q hq]
    simp
  · rw [if_neg hany]
    symm
    rw [List.length_nil, List.length_eq_zero_iff, List.filter_eq_nil_iff]
    intro k _
    rw [decide_eq_true_eq]
    rintro ⟨_, r, h5, h6, _⟩
    obtain ⟨p', hp', h7, h8⟩ := lv_of ha.asks ha.behind r a.length 0 (wideL n) (wide_len n) ha.pos (by omega) h5
    have := lv_one ha _ _ _ p' hp' p hp (by rw [← h8]; exact h6)
    subst this
    exact hany (inSp_any h7 (fun _ _ => trivial))
theorem flat_length {α β : Type} (f : α → List β) : ∀ l : List α, (l.flatMap f).length = (l.map fun x => (f x).length).sum := by
  intro l
  induction l with
  | nil => rfl
  | cons x r ih => rw [List.flatMap_cons, List.length_append, List.map_cons, List.sum_cons, ih]
theorem pairsL_count {a b : List Nd} {n : Nat} (ha : Right a n) (hb : Right b n) : (pairsL a b n).length = cnt2 (Hit a b n) (idx a a.length 0) (idx b b.length 0) := by
  unfold pairsL cnt2
  rw [flat_length, ← lv_idx a a.length 0 (wideL n), List.map_map]
  congr 1
  refine List.map_congr_left fun p hp => ?_
  rw [pairsAt_count ha hb p hp]
  rfl
theorem pairsL_turn {a b : List Nd} {n : Nat} (ha : Right a n) (hb : Right b n) : (pairsL a b n).length = (pairsL b a n).length := by
  rw [pairsL_count ha hb, pairsL_count hb ha, cnt2_turn]
  congr 1
  funext k i
  unfold Hit
  refine propext ⟨?_, ?_⟩
  · rintro ⟨h, r, h1, h2, h3⟩; exact ⟨Ne.symm h, r, h1, h3, h2⟩
  · rintro ⟨h, r, h1, h2, h3⟩; exact ⟨Ne.symm h, r, h1, h3, h2⟩
open Classical in
theorem pairsL_self {a : List Nd} {n : Nat} (ha : Right a n) : pairsL a a n = [] := by
  unfold pairsL
  rw [List.flatMap_eq_nil_iff]
  intro p hp
  have := pairsAt_count ha ha p hp
  apply List.eq_nil_of_length_eq_zero
  rw [this, List.length_eq_zero_iff, List.filter_eq_nil_iff]
  intro k _
  rw [decide_eq_true_eq]
  rintro ⟨h, r, h1, h2, h3⟩
  rw [h2] at h3
  exact h (by rw [h3])

theorem bothE_turn {a b : List Nd} {fe : Int} : bothE a b fe = 0 ↔ bothE b a fe = 0 := by
  unfold bothE
  by_cases h1 : treeE a fe = 0 <;> by_cases h2 : treeE b fe = 0 <;> simp [h1, h2]
theorem leaf_fact : movedV [⟨-1, 0, 0, 0, false, 7⟩] [⟨-1, 0, 0, 0, false, 9⟩] 0 = 1 ∧ bothE [⟨-1, 0, 0, 0, false, 7⟩] [⟨-1, 0, 0, 0, false, 9⟩] 0 = 0 := by decide
theorem errV_no {e : Int} (h : e ≠ 0) : ∃ t v, errV e = .iface t v := ⟨_, _, errV_1 h⟩

end Go.Proofs.YtefkjpcgcgofgaaDoor
