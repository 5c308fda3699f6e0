/- Part 26 of what LawLimitTells needs: LimitLaw, DifferTurned. Conditions: as each lemma names. -/
import Derived.Test.YtafaedhjlmkamaaGreatDoorPkLimitTells20
import Derived.Test.YtafaedhjlmkamaaGreatDoorPkLimitTells25
import Derived.Test.YtafaedhjlmkamaaGreatDoorPkLimitTells10
/- LimitHolds, plain: what is told holds of each row within spans, and comes of a row. Conditions: as each lemma names. -/
namespace Go.Proofs.YtafaedhjlmkamaaGreatDoor
set_option linter.unusedVariables false
set_option linter.unusedSimpArgs false
open Go.RowKit

theorem fits_in2 {r : List Int} {l : List Sp} (h : rowE r = 0) : (fitsE r l = 0 ↔ r.length = l.length) ∧ (fitsB r l = true ↔ inSp r l) := by
  have h1 : fitsE r l = 0 ↔ r.length = l.length := by
    unfold fitsE
    rw [if_pos h]
    by_cases hl : r.length = l.length
    · simp [hl]
    · simp [hl]
  refine ⟨h1, ?_⟩
  unfold fitsB inSp
  rw [Bool.and_eq_true, beq_iff_eq, h1, List.all_eq_true]
  refine and_congr_right fun hl => ?_
  constructor
  · intro ha j x s hx hs
    exact ha (x, s) (List.mem_of_getElem? (zip_at hx hs))
  · intro ha p hp
    obtain ⟨j, hj⟩ := List.mem_iff_getElem?.1 hp
    rw [List.getElem?_zip_eq_some] at hj
    exact ha j p.1 p.2 hj.1 hj.2
theorem spansF_all : ∀ (l : List Sp), spansF l = 0 → ∀ s ∈ l, cellB s.low = true ∧ cellB s.high = true ∧ someB s = true := by
  intro l
  induction l with
  | nil => intro _ s h; cases h
  | cons x r ih =>
    intro h s hs
    rw [spansF] at h
    split at h
    · rename_i h1
      split at h
      · rename_i h2
        rw [Bool.and_eq_true] at h1
        rcases List.mem_cons.1 hs with rfl | hs
        · exact ⟨h1.1, h1.2, h2⟩
        · exact ih h s hs
      · cases h
    · cases h
theorem spansE_all {l : List Sp} (h : spansE l = 0) : l.length ≤ 8 ∧ anyB l = true ∧ ∀ s ∈ l, -1000000 ≤ s.low ∧ s.low ≤ 1000000 ∧ s.high ≤ 1000000 := by
  unfold spansE at h
  by_cases h8 : 8 < l.length
  · rw [if_pos h8] at h; cases h
  · rw [if_neg h8] at h
    have h1 := spansF_all l h
    refine ⟨by omega, ?_, fun s hs => ?_⟩
    · unfold anyB; rw [List.all_eq_true]; exact fun s hs => (h1 s hs).2.2
    · obtain ⟨a, b, _⟩ := h1 s hs
      exact ⟨(cellB_t.1 a).1, (cellB_t.1 a).2, (cellB_t.1 b).2⟩
theorem in_row {l : List Sp} {x : List Int} (h8 : l.length ≤ 8) (hl : ∀ s ∈ l, -1000000 ≤ s.low ∧ s.low ≤ 1000000 ∧ s.high ≤ 1000000) (h : inSp x l) : rowE x = 0 := by
  unfold rowE
  rw [if_neg (by rw [h.1]; omega), if_pos]
  rw [List.all_eq_true]
  intro c hc
  obtain ⟨j, hj⟩ := List.getElem?_of_mem hc
  have hjl : j < l.length := by rw [← h.1]; exact (List.getElem?_eq_some_iff.1 hj).1
  have hs : l[j]? = some l[j] := List.getElem?_eq_getElem hjl
  have h1 := h.2 j c _ hj hs
  have h2 := hl _ (List.getElem_mem hjl)
  unfold rowGood nilC
  unfold inB at h1
  by_cases hx0 : c = -1125899906842624
  · subst hx0; rfl
  · rw [if_neg hx0] at h1
    simp at h1
    rw [Bool.or_eq_true]
    exact .inr (cellB_t.2 ⟨by omega, by omega⟩)

/-- what ends say -/
def EnOk (t : List Nd) (ro : Nat → Option (List Sp)) (k : Nat) (e : En) : Prop :=
  (e.some = true → (∃ i li, i < k ∧ ro i = some li ∧ e.low = valAt t i ∧ e.least = pickL li) ∧ (∃ i li, i < k ∧ ro i = some li ∧ e.high = valAt t i ∧ e.most = pickL li)) ∧
  (∀ i li, i < k → ro i = some li → e.some = true ∧ e.low ≤ valAt t i ∧ valAt t i ≤ e.high)
theorem enTo_ok (t : List Nd) (ro : Nat → Option (List Sp)) : ∀ k, EnOk t ro k (enTo t ro k) := by
  intro k
  induction k with
  | zero => exact ⟨fun h => (by cases h), fun i li h => absurd h (by omega)⟩
  | succ k ih =>
    rw [enTo_next]
    unfold enStep
    obtain ⟨h1, h2⟩ := ih
    cases h : ro k with
    | none =>
      refine ⟨fun hs => ?_, fun i li hi hr => ?_⟩
      · obtain ⟨⟨i, li, a1, a2⟩, ⟨j, lj, b1, b2⟩⟩ := h1 hs
        exact ⟨⟨i, li, by omega, a2⟩, ⟨j, lj, by omega, b2⟩⟩
      · by_cases hik : i = k
        · subst hik; rw [h] at hr; cases hr
        · exact h2 i li (by omega) hr
    | some lk =>
      dsimp only
      generalize enTo t ro k = e at *
      obtain ⟨lo, hi, ls, ms, so⟩ := e
      dsimp only at h1 h2 ⊢
      cases so
      · refine ⟨fun _ => ⟨⟨k, lk, by omega, h, by simp, by simp⟩, ⟨k, lk, by omega, h, by simp, by simp⟩⟩, fun i li hi' hr => ?_⟩
        by_cases hik : i = k
        · subst hik; simp
        · have := (h2 i li (by omega) hr).1; cases this
      · obtain ⟨⟨i0, li, a1, a2, a3, a4⟩, ⟨j0, lj, b1, b2, b3, b4⟩⟩ := h1 rfl
        refine ⟨fun _ => ⟨?_, ?_⟩, fun i l' hi' hr => ⟨rfl, ?_⟩⟩
        · by_cases hL : valAt t k < lo
          · exact ⟨k, lk, by omega, h, by simp [hL], by simp [hL]⟩
          · exact ⟨i0, li, by omega, a2, (if_neg (by simpa using hL)).trans a3, (if_neg (by simpa using hL)).trans a4⟩
        · by_cases hH : hi < valAt t k
          · exact ⟨k, lk, by omega, h, by simp [hH], by simp [hH]⟩
          · exact ⟨j0, lj, by omega, b2, (if_neg (by simpa using hH)).trans b3, (if_neg (by simpa using hH)).trans b4⟩
        · by_cases hL : valAt t k < lo <;> by_cases hH : hi < valAt t k <;> simp only [hL, hH, Bool.not_true, Bool.false_or, decide_true, decide_false, if_true, if_false, Bool.false_eq_true]
          all_goals
            by_cases hik : i = k
            · subst hik; omega
            · have := (h2 i l' (by omega) hr).2; omega
theorem rowOf_some {ys : List (Nat × List Sp)} {p : Nat × List Sp} (h : p ∈ ys) (ha : anyB p.2 = true) : ∃ l, rowOf ys p.1 = some l := by
  have h1 : p ∈ ys.filter fun q => q.1 == p.1 && anyB q.2 := List.mem_filter.2 ⟨h, by simp [ha]⟩
  unfold rowOf
  have h2 : (ys.filter fun q => q.1 == p.1 && anyB q.2).map (·.2) ≠ [] := fun e => by
    rw [List.map_eq_nil_iff] at e
    rw [e] at h1
    cases h1
  exact ⟨_, List.getLast?_eq_some_getLast h2⟩
/-- a row within spans comes to a leaf that is heard -/
theorem row_heard {t : List Nd} {n : Nat} (hR : Right t n) {l : List Sp} (hl : l.length = n) {r : List Int} (hr : inSp r l) : ∃ li, roL t l (leafOf t r) = some li ∧ leafOf t r < t.length := by
  obtain ⟨p, hp, h1, h2⟩ := lv_of hR.asks hR.behind r t.length 0 l hl hR.pos (by omega) hr
  obtain ⟨l', h3⟩ := rowOf_some hp (inSp_any h1 (fun _ _ => trivial))
  have h4 : leafOf t r = p.1 := h2
  refine ⟨l', by rw [h4]; exact h3, leafFrom_lt hR.behind _ _ hR.pos⟩
/-- the picked row of a leaf that is heard is within the spans and comes to it -/
theorem heard_row {t : List Nd} {n : Nat} (hR : Right t n) {l li : List Sp} (hl : l.length = n) (hlow : ∀ s ∈ l, -1000000 ≤ s.low) {i : Nat} (h : roL t l i = some li) : inSp (pickL li) l ∧ leafOf t (pickL li) = i := by
  obtain ⟨hp, ha, _⟩ := roL_leaf h
  have hr := pick_in (wf_low (lv_low t.length 0 l hlow (i, li) hp)) ha
  obtain ⟨h3, h4⟩ := lv_to hR.asks _ _ _ _ hl (i, li) hp hr
  exact ⟨h3, h4⟩

theorem holds_of {t : List Nd} {n : Nat} (hR : Right t n) {l : List Sp} (hl : l.length = n) (hs : spansE l = 0) : inSp (endsV t l).least l ∧ valAt t (leafOf t (endsV t l).least) = (endsV t l).low ∧ inSp (endsV t l).most l ∧ valAt t (leafOf t (endsV t l).most) = (endsV t l).high ∧ ∀ r, inSp r l → (endsV t l).low ≤ valAt t (leafOf t r) ∧ valAt t (leafOf t r) ≤ (endsV t l).high := by
  obtain ⟨h8, ha, hc⟩ := spansE_all hs
  have hlow : ∀ s ∈ l, -1000000 ≤ s.low := fun s h => (hc s h).1
  have hok := enTo_ok t (roL t l) t.length
  have h0 := pick_in (wf_low hlow) ha
  obtain ⟨l0, h1, h2⟩ := row_heard hR hl h0
  obtain ⟨hsome, _⟩ := hok.2 _ _ h2 h1
  obtain ⟨⟨i, li, a1, a2, a3, a4⟩, ⟨j, lj, b1, b2, b3, b4⟩⟩ := hok.1 hsome
  obtain ⟨c1, c2⟩ := heard_row hR hl hlow a2
  obtain ⟨d1, d2⟩ := heard_row hR hl hlow b2
  unfold endsV
  refine ⟨by rw [a4]; exact c1, by rw [a4, c2, a3], by rw [b4]; exact d1, by rw [b4, d2, b3], fun r hr => ?_⟩
  obtain ⟨lr, e1, e2⟩ := row_heard hR hl hr
  exact (hok.2 _ _ e2 e1).2
theorem grove_holds {g : Gv} {l : List Sp} {r : List Int} (h : limGE g l = 0) (hr : inSp r l) : standE g r = 0 ∧ (limGV g l).1 ≤ gevalV g r ∧ gevalV g r ≤ (limGV g l).2 := by
  have h' := h
  unfold limGE at h'
  by_cases hg : g.e = 0
  · rw [if_pos hg] at h'
    by_cases hf : (l.length : Int) = g.f
    · rw [if_pos hf] at h'
      have hG := groveE_right hg
      obtain ⟨h8, ha, hc⟩ := spansE_all h'
      have hrow := in_row h8 hc hr
      have hst : standE g r = 0 := by unfold standE; rw [if_pos hg, if_pos hrow, if_pos (by rw [hr.1]; exact hf)]
      refine ⟨hst, ?_⟩
      have hlo : ∀ t ∈ g.ts, (endsV t.l l).low ≤ valAt t.l (leafOf t.l r) := fun t ht => ((holds_of (right_of (by rw [hf]; exact hG.trees t ht)) rfl h').2.2.2.2 r hr).1
      have hhi : ∀ t ∈ g.ts, valAt t.l (leafOf t.l r) ≤ (endsV t.l l).high := fun t ht => ((holds_of (right_of (by rw [hf]; exact hG.trees t ht)) rfl h').2.2.2.2 r hr).2
      unfold limGV gevalV
      rw [if_pos h, if_pos hst]
      unfold betwV
      rcases way_cases hG with hw | hw
      · rw [if_neg (by omega)]
        exact ⟨tog_mono hlo hG.weights hG.wlen hG.pos hw, tog_mono hhi hG.weights hG.wlen hG.pos hw⟩
      · rw [if_pos hw]
        have hp := hG.pos
        have hv : togV g.way g.ws (eachV g r) ∈ eachV g r := by
          have := eval_vote hst hw
          unfold gevalV at this
          rwa [if_pos hst] at this
        obtain ⟨t, ht, hte⟩ := List.mem_map.1 hv
        have h1 := hlo t ht
        have h2 := hhi t ht
        have n1 : (g.ts.map fun t => (endsV t.l l).low) ≠ [] := fun e => by have := congrArg List.length e; simp at this; rw [this] at hp; simp at hp
        have n2 : (g.ts.map fun t => (endsV t.l l).high) ≠ [] := fun e => by have := congrArg List.length e; simp at this; rw [this] at hp; simp at hp
        have m1 := (minOf_spec n1).2 _ (List.mem_map.2 ⟨t, ht, rfl⟩)
        have m2 := (maxOf_spec n2).2 _ (List.mem_map.2 ⟨t, ht, rfl⟩)
        rw [← hte]
        dsimp only at h1 h2 m1 m2 ⊢
        omega
    · rw [if_neg hf] at h'; cases h'
  · rw [if_neg hg] at h'; exact absurd h' hg
end Go.Proofs.YtafaedhjlmkamaaGreatDoor
/- DifferTurned: the plain law and the walk. Conditions: arguments read as lists. -/
namespace Go.Proofs.YtafaedhjlmkamaaGreatDoor
set_option linter.unusedVariables false
set_option linter.unusedSimpArgs false
open Go.RowKit
open Classical in
/-- in how many pairs: either way round -/
noncomputable def cnt2 {α β : Type} (c : α → β → Prop) (L : List α) (M : List β) : Nat := (L.map fun i => (M.filter fun k => decide (c i k)).length).sum
open Classical in
theorem cnt2_turn {α β : Type} (c : α → β → Prop) (M : List β) : ∀ L : List α, cnt2 c L M = cnt2 (fun k i => c i k) M L := by
  intro L
  induction L with
  | nil => unfold cnt2; induction M with
    | nil => rfl
    | cons k r ih => simpa using ih
  | cons i r ih =>
    have h1 : cnt2 c (i :: r) M = (M.filter fun k => decide (c i k)).length + cnt2 c r M := by unfold cnt2; simp
    have h2 : ∀ M : List β, cnt2 (fun k i => c i k) M (i :: r) = (M.filter fun k => decide (c i k)).length + cnt2 (fun k i => c i k) M r := by
      intro M
      induction M with
      | nil => rfl
      | cons k s ihs =>
        unfold cnt2 at ihs ⊢
        simp only [List.map_cons, List.sum_cons, List.filter_cons]
        by_cases h : c i k
        · simp only [h, decide_true, if_true, List.length_cons] at ihs ⊢
          simp only [List.filter_cons] at ihs
          omega
        · simp only [h, decide_false, Bool.false_eq_true, if_false] at ihs ⊢
          simp only [List.filter_cons] at ihs
          omega
    rw [h1, h2, ih]

/-- some row comes to both leaves, and their values differ -/
def Hit (a b : List Nd) (n i k : Nat) : Prop := valAt a i ≠ valAt b k ∧ ∃ r, inSp r (wideL n) ∧ leafOf a r = i ∧ leafOf b r = k
open Classical in
theorem pairsAt_count {a b : List Nd} {n : Nat} (ha : Right a n) (hb : Right b n) (p : Nat × List Sp) (hp : p ∈ lv a a.length 0 (wideL n)) :
    (pairsAt a b p).length = ((idx b b.length 0).filter (fun k => decide (Hit a b n p.1 k))).length := by
  have hpl : p.2.length = n := by rw [lv_length _ _ _ p hp, wide_len]
  have hlow := lv_low a.length 0 (wideL n) (wide_low n) p hp
  have key : ∀ q ∈ lv b b.length 0 p.2, (meets a b p.1 q = true ↔ Hit a b n p.1 q.1) := by
    intro q hq
    unfold meets Hit
    rw [Bool.and_eq_true, bne_iff_ne]
    constructor
    · rintro ⟨h1, h2⟩
      have hr := pick_in (wf_low (lv_low b.length 0 p.2 hlow q hq)) h1
      obtain ⟨h3, h4⟩ := lv_to hb.asks _ _ _ _ hpl q hq hr
      obtain ⟨h5, h6⟩ := lv_to ha.asks _ _ _ _ (wide_len n) p hp h3
      exact ⟨h2, _, h5, h6, h4⟩
    · rintro ⟨h2, r, h5, h6, h4⟩
      obtain ⟨p', hp', h7, h8⟩ := lv_of ha.asks ha.behind r a.length 0 (wideL n) (wide_len n) ha.pos (by omega) h5
      have := lv_one ha _ _ _ p' hp' p hp (by rw [← h8]; exact h6)
      subst this
      obtain ⟨q', hq', h9, h10⟩ := lv_of hb.asks hb.behind r b.length 0 p'.2 hpl hb.pos (by omega) h7
      have := lv_one hb _ _ _ q' hq' q hq (by rw [← h10]; exact h4)
      subst this
      exact ⟨inSp_any h9 (fun _ _ => trivial), h2⟩
  unfold pairsAt
  by_cases hany : anyB p.2 = true
  · rw [if_pos hany, List.length_map, ← lv_idx b b.length 0 p.2, List.filter_map, List.length_map]
    congr 1
    refine List.filter_congr fun q hq => ?_
    rw [Bool.eq_iff_iff, key q hq]
    simp
  · rw [if_neg hany]
    symm
    rw [List.length_nil, List.length_eq_zero_iff, List.filter_eq_nil_iff]
    intro k _
    rw [decide_eq_true_eq]
    rintro ⟨_, r, h5, h6, _⟩
    obtain ⟨p', hp', h7, h8⟩ := lv_of ha.asks ha.behind r a.length 0 (wideL n) (wide_len n) ha.pos (by omega) h5
    have := lv_one ha _ _ _ p' hp' p hp (by rw [← h8]; exact h6)
    subst this
    exact hany (inSp_any h7 (fun _ _ => trivial))
theorem flat_length {α β : Type} (f : α → List β) : ∀ l : List α, (l.flatMap f).length = (l.map fun x => (f x).length).sum := by
  intro l
  induction l with
  | nil => rfl
  | cons x r ih => rw [List.flatMap_cons, List.length_append, List.map_cons, List.sum_cons, ih]
theorem pairsL_count {a b : List Nd} {n : Nat} (ha : Right a n) (hb : Right b n) : (pairsL a b n).length = cnt2 (Hit a b n) (idx a a.length 0) (idx b b.length 0) := by
  unfold pairsL cnt2
  rw [flat_length, ← lv_idx a a.length 0 (wideL n), List.map_map]
  congr 1
  refine List.map_congr_left fun p hp => ?_
  rw [pairsAt_count ha hb p hp]
  rfl
theorem pairsL_turn {a b : List Nd} {n : Nat} (ha : Right a n) (hb : Right b n) : (pairsL a b n).length = (pairsL b a n).length := by
  rw [pairsL_count ha hb, pairsL_count hb ha, cnt2_turn]
  congr 1
  funext k i
  unfold Hit
  refine propext ⟨?_, ?_⟩
  · rintro ⟨h, r, h1, h2, h3⟩; exact ⟨Ne.symm h, r, h1, h3, h2⟩
  · rintro ⟨h, r, h1, h2, h3⟩; exact ⟨Ne.symm h, r, h1, h3, h2⟩
open Classical in
theorem pairsL_self {a : List Nd} {n : Nat} (ha : Right a n) : pairsL a a n = [] := by
  unfold pairsL
  rw [List.flatMap_eq_nil_iff]
  intro p hp
  have := pairsAt_count ha ha p hp
  apply List.eq_nil_of_length_eq_zero
  rw [this, List.length_eq_zero_iff, List.filter_eq_nil_iff]
  intro k _
  rw [decide_eq_true_eq]
  rintro ⟨h, r, h1, h2, h3⟩
  rw [h2] at h3
  exact h (by rw [h3])

theorem bothE_turn {a b : List Nd} {fe : Int} : bothE a b fe = 0 ↔ bothE b a fe = 0 := by
  unfold bothE
  by_cases h1 : treeE a fe = 0 <;> by_cases h2 : treeE b fe = 0 <;> simp [h1, h2]
theorem leaf_fact : movedV [⟨-1, 0, 0, 0, false, 7⟩] [⟨-1, 0, 0, 0, false, 9⟩] 0 = 1 ∧ bothE [⟨-1, 0, 0, 0, false, 7⟩] [⟨-1, 0, 0, 0, false, 9⟩] 0 = 0 := by decide
theorem errV_no {e : Int} (h : e ≠ 0) : ∃ t v, errV e = .iface t v := ⟨_, _, errV_1 h⟩

end Go.Proofs.YtafaedhjlmkamaaGreatDoor
