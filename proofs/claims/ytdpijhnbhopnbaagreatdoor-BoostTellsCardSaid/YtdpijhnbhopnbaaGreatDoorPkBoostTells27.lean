/- Part 27 of what LawBoostTells needs: GroveMono. Conditions: as each lemma names. -/
import Derived.Test.YtdpijhnbhopnbaaGreatDoorPkBoostTells26
/- What trees come to together rises with them; a vote is one of them. Plain. Conditions: as each lemma names. -/
namespace Go.Proofs.YtdpijhnbhopnbaaGreatDoor
set_option linter.unusedVariables false
set_option linter.unusedSimpArgs false
open Go.RowKit

theorem vote_exists {ps : Ps} (h : ps ≠ []) : ∃ b, IsVote ps b := by
  have h1 : (ps.map (·.1)).map (pVotes ps) ≠ [] := by simpa using h
  obtain ⟨hm, hall⟩ := maxOf_spec h1
  obtain ⟨x, hx, hxe⟩ := List.mem_map.1 hm
  have h2 : (ps.map (·.1)).filter (fun v => pVotes ps v == Lib.maxOf ((ps.map (·.1)).map (pVotes ps))) ≠ [] := by
    intro e
    have : x ∈ (ps.map (·.1)).filter (fun v => pVotes ps v == Lib.maxOf ((ps.map (·.1)).map (pVotes ps))) := List.mem_filter.2 ⟨hx, by simpa using hxe⟩
    rw [e] at this; cases this
  obtain ⟨hb, hmin⟩ := minOf_spec h2
  obtain ⟨hb1, hb2⟩ := List.mem_filter.1 hb
  have hb2' : pVotes ps (Lib.minOf ((ps.map (·.1)).filter (fun v => pVotes ps v == Lib.maxOf ((ps.map (·.1)).map (pVotes ps))))) = Lib.maxOf ((ps.map (·.1)).map (pVotes ps)) := by simpa using hb2
  refine ⟨_, hb1, fun v hv => ?_, fun v hv e => hmin v (List.mem_filter.2 ⟨hv, ?_⟩)⟩
  · rw [hb2']; exact hall _ (List.mem_map.2 ⟨v, hv, rfl⟩)
  · rw [e, hb2']; simp
theorem pSum_mono {α : Type} (a b : α → Int) (ts : List α) : ∀ (ws : List Int), (∀ t ∈ ts, a t ≤ b t) → (∀ x ∈ ws, 0 ≤ x) → pSum ((ts.map a).zip ws) ≤ pSum ((ts.map b).zip ws) := by
  induction ts with
  | nil => intro ws _ _; simp
  | cons t r ih =>
    intro ws h hw
    cases ws with
    | nil => simp
    | cons w ws =>
      have h1 := ih ws (fun t ht => h t (List.mem_cons_of_mem _ ht)) (fun x hx => hw x (List.mem_cons_of_mem _ hx))
      have h2 : a t * w ≤ b t * w := Int.mul_le_mul_of_nonneg_right (h t (List.mem_cons_self ..)) (hw w (List.mem_cons_self ..))
      unfold pSum at h1 ⊢
      simp only [List.map_cons, List.zip_cons_cons, List.sum_cons]
      omega
theorem pAll_same {α : Type} (a b : α → Int) (ts : List α) : ∀ (ws : List Int), pAll ((ts.map a).zip ws) = pAll ((ts.map b).zip ws) := by
  induction ts with
  | nil => intro ws; simp
  | cons t r ih =>
    intro ws
    cases ws with
    | nil => simp
    | cons w ws =>
      have h1 := ih ws
      unfold pAll at h1 ⊢
      simp only [List.map_cons, List.zip_cons_cons, List.sum_cons]
      omega
theorem tog_mono {α : Type} {a b : α → Int} {ts : List α} {ws : List Int} {way : Int} (h : ∀ t ∈ ts, a t ≤ b t) (hw : ∀ x ∈ ws, 1 ≤ x ∧ x ≤ 1000) (hl : ws.length = ts.length) (hp : 0 < ts.length) (h3 : way = 1 ∨ way = 2) : togV way ws (ts.map a) ≤ togV way ws (ts.map b) := by
  have h1 := pSum_mono a b ts ws h (fun x hx => by have := hw x hx; omega)
  unfold togV
  rcases h3 with rfl | rfl
  · rw [if_pos rfl, if_pos rfl]; exact h1
  · rw [if_neg (by decide), if_pos rfl, if_neg (by decide), if_pos rfl, pAll_same a b]
    have hA := (pAll_in (ps := (ts.map b).zip ws) (fun p hp => hw _ (List.of_mem_zip (a := p.1) (b := p.2) hp).2)).1
    rw [List.length_zip, List.length_map, hl, Nat.min_self] at hA
    exact Int.ediv_le_ediv (by omega) h1
theorem zip_fst {l : List Int} {ws : List Int} (h : l.length = ws.length) : (l.zip ws).map (·.1) = l := List.map_fst_zip (by omega)
theorem vote_in {l ws : List Int} (h : l.length = ws.length) (hn : l ≠ []) : voteV (l.zip ws) ∈ l := by
  have h0 : l.zip ws ≠ [] := fun e => by
    have := congrArg List.length e
    rw [List.length_zip, h, Nat.min_self] at this
    have : l.length = 0 := by rw [h]; simpa using this
    exact hn (List.eq_nil_of_length_eq_zero this)
  obtain ⟨b, hb⟩ := vote_exists h0
  rw [voteV_eq hb]
  have := hb.mem
  rwa [zip_fst h] at this
theorem way_cases {g : Gv} (h : GRight g) : (g.way = 1 ∨ g.way = 2) ∨ g.way = 3 := by have := h.way1; have := h.way3; omega
theorem eval_vote {g : Gv} {r : List Int} (h : standE g r = 0) (hw : g.way = 3) : gevalV g r ∈ eachV g r := by
  obtain ⟨hG, _, _⟩ := standE_0 h
  have hl : (eachV g r).length = g.ws.length := by rw [eachV_len, hG.wlen]
  have hp := hG.pos
  unfold gevalV togV
  rw [if_pos h, if_neg (by omega), if_neg (by omega)]
  exact vote_in hl (fun e => by rw [e] at hl; have := hG.wlen; simp at hl; omega)
end Go.Proofs.YtdpijhnbhopnbaaGreatDoor
