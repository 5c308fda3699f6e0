/- LimitHolds, plain: what is told holds of each row within spans, and comes of a row. Conditions: as each lemma names. -/
import Derived.Test.YtefkjpcgcgofgaaLimitG
import Derived.Test.YtefkjpcgcgofgaaGroveMono
namespace Go.Proofs.Ytefkjpcgcgofgaa
set_option linter.unusedVariables false
set_option linter.unusedSimpArgs false
open Go.RowKit

theorem fits_in2 {r : List Int} {l : List Sp} (h : rowE r = 0) : (fitsE r l = 0 ↔ r.length = l.length) ∧ (fitsB r l = true ↔ inSp r l) := by
  have h1 : fitsE r l = 0 ↔ r.length = l.length := by
    unfold fitsE
    rw [if_pos h]
    by_cases hl : r.length = l.length
    · simp [hl]
    · simp [hl]
  refine ⟨h1, ?_⟩
  unfold fitsB inSp
  rw [Bool.and_eq_true, beq_iff_eq, h1, List.all_eq_true]
  refine and_congr_right fun hl => ?_
  constructor
  · intro ha j x s hx hs
    exact ha (x, s) (List.mem_of_getElem? (zip_at hx hs))
  · intro ha p hp
    obtain ⟨j, hj⟩ := List.mem_iff_getElem?.1 hp
    rw [List.getElem?_zip_eq_some] at hj
    exact ha j p.1 p.2 hj.1 hj.2
theorem spansF_all : ∀ (l : List Sp), spansF l = 0 → ∀ s ∈ l, cellB s.low = true ∧ cellB s.high = true ∧ someB s = true := by
  intro l
  induction l with
  | nil => intro _ s h; cases h
  | cons x r ih =>
    intro h s hs
    rw [spansF] at h
    split at h
    · rename_i h1
      split at h
      · rename_i h2
        rw [Bool.and_eq_true] at h1
        rcases List.mem_cons.1 hs with rfl | hs
        · exact ⟨h1.1, h1.2, h2⟩
        · exact ih h s hs
      · cases h
    · cases h
theorem spansE_all {l : List Sp} (h : spansE l = 0) : l.length ≤ 8 ∧ anyB l = true ∧ ∀ s ∈ l, -1000000 ≤ s.low ∧ s.low ≤ 1000000 ∧ s.high ≤ 1000000 := by
  unfold spansE at h
  by_cases h8 : 8 < l.length
  · rw [if_pos h8] at h; cases h
  · rw [if_neg h8] at h
    have h1 := spansF_all l h
    refine ⟨by omega, ?_, fun s hs => ?_⟩
    · unfold anyB; rw [List.all_eq_true]; exact fun s hs => (h1 s hs).2.2
    · obtain ⟨a, b, _⟩ := h1 s hs
      exact ⟨(cellB_t.1 a).1, (cellB_t.1 a).2, (cellB_t.1 b).2⟩
theorem in_row {l : List Sp} {x : List Int} (h8 : l.length ≤ 8) (hl : ∀ s ∈ l, -1000000 ≤ s.low ∧ s.low ≤ 1000000 ∧ s.high ≤ 1000000) (h : inSp x l) : rowE x = 0 := by
  unfold rowE
  rw [if_neg (by rw [h.1]; omega), if_pos]
  rw [List.all_eq_true]
  intro c hc
  obtain ⟨j, hj⟩ := List.getElem?_of_mem hc
  have hjl : j < l.length := by rw [← h.1]; exact (List.getElem?_eq_some_iff.1 hj).1
  have hs : l[j]? = some l[j] := List.getElem?_eq_getElem hjl
  have h1 := h.2 j c _ hj hs
  have h2 := hl _ (List.getElem_mem hjl)
  unfold rowGood nilC
  unfold inB at h1
  by_cases hx0 : c = -1125899906842624
  · subst hx0; rfl
  · rw [if_neg hx0] at h1
    simp at h1
    rw [Bool.or_eq_true]
    exact .inr (cellB_t.2 ⟨by omega, by omega⟩)

/-- what ends say -/
def EnOk (t : List Nd) (ro : Nat → Option (List Sp)) (k : Nat) (e : En) : Prop :=
  (e.some = true → (∃ i li, i < k ∧ ro i = some li ∧ e.low = valAt t i ∧ e.least = pickL li) ∧ (∃ i li, i < k ∧ ro i = some li ∧ e.high = valAt t i ∧ e.most = pickL li)) ∧
  (∀ i li, i < k → ro i = some li → e.some = true ∧ e.low ≤ valAt t i ∧ valAt t i ≤ e.high)
theorem enTo_ok (t : List Nd) (ro : Nat → Option (List Sp)) : ∀ k, EnOk t ro k (enTo t ro k) := by
  intro k
  induction k with
  | zero => exact ⟨fun h => (by cases h), fun i li h => absurd h (by omega)⟩
  | succ k ih =>
    rw [enTo_next]
    unfold enStep
    obtain ⟨h1, h2⟩ := ih
    cases h : ro k with
    | none =>
      refine ⟨fun hs => ?_, fun i li hi hr => ?_⟩
      · obtain ⟨⟨i, li, a1, a2⟩, ⟨j, lj, b1, b2⟩⟩ := h1 hs
        exact ⟨⟨i, li, by omega, a2⟩, ⟨j, lj, by omega, b2⟩⟩
      · by_cases hik : i = k
        · subst hik; rw [h] at hr; cases hr
        · exact h2 i li (by omega) hr
    | some lk =>
      dsimp only
      generalize enTo t ro k = e at *
      obtain ⟨lo, hi, ls, ms, so⟩ := e
      dsimp only at h1 h2 ⊢
      cases so
      · refine ⟨fun _ => ⟨⟨k, lk, by omega, h, by simp, by simp⟩, ⟨k, lk, by omega, h, by simp, by simp⟩⟩, fun i li hi' hr => ?_⟩
        by_cases hik : i = k
        · subst hik; simp
        · have := (h2 i li (by omega) hr).1; cases this
      · obtain ⟨⟨i0, li, a1, a2, a3, a4⟩, ⟨j0, lj, b1, b2, b3, b4⟩⟩ := h1 rfl
        refine ⟨fun _ => ⟨?_, ?_⟩, fun i l' hi' hr => ⟨rfl, ?_⟩⟩
        · by_cases hL : valAt t k < lo
          · exact ⟨k, lk, by omega, h, by simp [hL], by simp [hL]⟩
          · exact ⟨i0, li, by omega, a2, (if_neg (by simpa using hL)).trans a3, (if_neg (by simpa using hL)).trans a4⟩
        · by_cases hH : hi < valAt t k
          · exact ⟨k, lk, by omega, h, by simp [hH], by simp [hH]⟩
          · exact ⟨j0, lj, by omega, b2, (if_neg (by simpa using hH)).trans b3, (if_neg (by simpa using hH)).trans b4⟩
        · by_cases hL : valAt t k < lo <;> by_cases hH : hi < valAt t k <;> simp only [hL, hH, Bool.not_true, Bool.false_or, decide_true, decide_false, if_true, if_false, Bool.false_eq_true]
          all_goals
            by_cases hik : i = k
            · subst hik; omega
            · have := (h2 i l' (by omega) hr).2; omega
theorem rowOf_some {ys : List (Nat × List Sp)} {p : Nat × List Sp} (h : p ∈ ys) (ha : anyB p.2 = true) : ∃ l, rowOf ys p.1 = some l := by
  have h1 : p ∈ ys.filter fun q => q.1 == p.1 && anyB q.2 := List.mem_filter.2 ⟨h, by simp [ha]⟩
  unfold rowOf
  have h2 : (ys.filter fun q => q.1 == p.1 && anyB q.2).map (·.2) ≠ [] := fun e => by
    rw [List.map_eq_nil_iff] at e
    rw [e] at h1
    cases h1
  exact ⟨_, List.getLast?_eq_some_getLast h2⟩
/-- a row within spans comes to a leaf that is heard -/
theorem row_heard {t : List Nd} {n : Nat} (hR : Right t n) {l : List Sp} (hl : l.length = n) {r : List Int} (hr : inSp r l) : ∃ li, roL t l (leafOf t r) = some li ∧ leafOf t r < t.length := by
  obtain ⟨p, hp, h1, h2⟩ := lv_of hR.asks hR.behind r t.length 0 l hl hR.pos (by omega) hr
  obtain ⟨l', h3⟩ := rowOf_some hp (inSp_any h1 (fun _ _ => trivial))
  have h4 : leafOf t r = p.1 := h2
  refine ⟨l', by rw [h4]; exact h3, leafFrom_lt hR.behind _ _ hR.pos⟩
/-- the picked row of a leaf that is heard is within the spans and comes to it -/
theorem heard_row {t : List Nd} {n : Nat} (hR : Right t n) {l li : List Sp} (hl : l.length = n) (hlow : ∀ s ∈ l, -1000000 ≤ s.low) {i : Nat} (h : roL t l i = some li) : inSp (pickL li) l ∧ leafOf t (pickL li) = i := by
  obtain ⟨hp, ha, _⟩ := roL_leaf h
  have hr := pick_in (wf_low (lv_low t.length 0 l hlow (i, li) hp)) ha
  obtain ⟨h3, h4⟩ := lv_to hR.asks _ _ _ _ hl (i, li) hp hr
  exact ⟨h3, h4⟩

theorem holds_of {t : List Nd} {n : Nat} (hR : Right t n) {l : List Sp} (hl : l.length = n) (hs : spansE l = 0) : inSp (endsV t l).least l ∧ valAt t (leafOf t (endsV t l).least) = (endsV t l).low ∧ inSp (endsV t l).most l ∧ valAt t (leafOf t (endsV t l).most) = (endsV t l).high ∧ ∀ r, inSp r l → (endsV t l).low ≤ valAt t (leafOf t r) ∧ valAt t (leafOf t r) ≤ (endsV t l).high := by
  obtain ⟨h8, ha, hc⟩ := spansE_all hs
  have hlow : ∀ s ∈ l, -1000000 ≤ s.low := fun s h => (hc s h).1
  have hok := enTo_ok t (roL t l) t.length
  have h0 := pick_in (wf_low hlow) ha
  obtain ⟨l0, h1, h2⟩ := row_heard hR hl h0
  obtain ⟨hsome, _⟩ := hok.2 _ _ h2 h1
  obtain ⟨⟨i, li, a1, a2, a3, a4⟩, ⟨j, lj, b1, b2, b3, b4⟩⟩ := hok.1 hsome
  obtain ⟨c1, c2⟩ := heard_row hR hl hlow a2
  obtain ⟨d1, d2⟩ := heard_row hR hl hlow b2
  unfold endsV
  refine ⟨by rw [a4]; exact c1, by rw [a4, c2, a3], by rw [b4]; exact d1, by rw [b4, d2, b3], fun r hr => ?_⟩
  obtain ⟨lr, e1, e2⟩ := row_heard hR hl hr
  exact (hok.2 _ _ e2 e1).2
theorem grove_holds {g : Gv} {l : List Sp} {r : List Int} (h : limGE g l = 0) (hr : inSp r l) : standE g r = 0 ∧ (limGV g l).1 ≤ gevalV g r ∧ gevalV g r ≤ (limGV g l).2 := by
  have h' := h
  unfold limGE at h'
  by_cases hg : g.e = 0
  · rw [if_pos hg] at h'
    by_cases hf : (l.length : Int) = g.f
    · rw [if_pos hf] at h'
      have hG := groveE_right hg
      obtain ⟨h8, ha, hc⟩ := spansE_all h'
      have hrow := in_row h8 hc hr
      have hst : standE g r = 0 := by unfold standE; rw [if_pos hg, if_pos hrow, if_pos (by rw [hr.1]; exact hf)]
      refine ⟨hst, ?_⟩
      have hlo : ∀ t ∈ g.ts, (endsV t.l l).low ≤ valAt t.l (leafOf t.l r) := fun t ht => ((holds_of (right_of (by rw [hf]; exact hG.trees t ht)) rfl h').2.2.2.2 r hr).1
      have hhi : ∀ t ∈ g.ts, valAt t.l (leafOf t.l r) ≤ (endsV t.l l).high := fun t ht => ((holds_of (right_of (by rw [hf]; exact hG.trees t ht)) rfl h').2.2.2.2 r hr).2
      unfold limGV gevalV
      rw [if_pos h, if_pos hst]
      unfold betwV
      rcases way_cases hG with hw | hw
      · rw [if_neg (by omega)]
        exact ⟨tog_mono hlo hG.weights hG.wlen hG.pos hw, tog_mono hhi hG.weights hG.wlen hG.pos hw⟩
      · rw [if_pos hw]
        have hp := hG.pos
        have hv : togV g.way g.ws (eachV g r) ∈ eachV g r := by
          have := eval_vote hst hw
          unfold gevalV at this
          rwa [if_pos hst] at this
        obtain ⟨t, ht, hte⟩ := List.mem_map.1 hv
        have h1 := hlo t ht
        have h2 := hhi t ht
        have n1 : (g.ts.map fun t => (endsV t.l l).low) ≠ [] := fun e => by have := congrArg List.length e; simp at this; rw [this] at hp; simp at hp
        have n2 : (g.ts.map fun t => (endsV t.l l).high) ≠ [] := fun e => by have := congrArg List.length e; simp at this; rw [this] at hp; simp at hp
        have m1 := (minOf_spec n1).2 _ (List.mem_map.2 ⟨t, ht, rfl⟩)
        have m2 := (maxOf_spec n2).2 _ (List.mem_map.2 ⟨t, ht, rfl⟩)
        rw [← hte]
        dsimp only at h1 h2 m1 m2 ⊢
        omega
    · rw [if_neg hf] at h'; cases h'
  · rw [if_neg hg] at h'; exact absurd h' hg
end Go.Proofs.Ytefkjpcgcgofgaa
