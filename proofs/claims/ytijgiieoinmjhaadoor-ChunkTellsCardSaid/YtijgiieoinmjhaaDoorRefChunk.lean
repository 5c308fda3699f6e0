/- Chapter 15 in the references: Sum, Plan, Parts; orchsame.Parts; chunk.Plan in plain words. Conditions: as each lemma names. -/
import Derived.Test.YtijgiieoinmjhaaDoorChunkPlan
import Derived.Laws.StructEq
namespace Go.Proofs.YtijgiieoinmjhaaDoor
set_option linter.unusedVariables false
set_option linter.unusedSimpArgs false
open Go.RowKit

theorem rsum_any (A : Option Addr) (n c B : Nat) (l : List Int) (w : World) (hr : BReads w B A n l) (hn : n ≤ maxLen) (hby : ∀ x ∈ l, 0 ≤ x ∧ x < 256) :
    Calls Tryd.prog 16 #[.slice A n c] w fun e w' => e = .returned (.int .i64 (sumV l)) ∧ w = w' := by
  unfold maxLen at hn
  have HL := hide hr.len
  have HBY := hide hby
  clear hby
  go_enter Tryd.func16, Tryd.ntmps16
  go_wp2
  go_loop [3, 4] (fun s i => ∃ (k : Nat) (m : Int), k ≤ n ∧ i = .int .i64 k ∧ s = .int .i64 m ∧ 0 ≤ m ∧ m < 1000003 ∧ Hid (m = sumV (l.take k))) (fun _ i => n - (intOf i).toNat)
  case atStart => exact ⟨0, 7, Nat.zero_le _, rfl, rfl, by omega, by omega, hide rfl⟩
  case round =>
    obtain ⟨k, m, hk, rfl, rfl, hm0, hm1, HM⟩ := hrel
    by_cases hlt : k < n
    · obtain ⟨b, o, x, rfl, _, hx, hcx⟩ := hr.get hlt
      have HX := hide hx
      obtain ⟨hx0, hx1⟩ := (unhide HBY) x (List.mem_of_getElem? hx)
      clear hx
      go_wp2
      go_round
      case rel => exact ⟨k + 1, sumS m x, by omega, by go_num, by unfold sumS; rw [Int.mul_comm 31 m], (sumS_in m x).1, (sumS_in m x).2, hide (by rw [sumV_next (unhide HX), unhide HM])⟩
      case measure => simp [intOf]; omega
    · go_wp2
      go_ret
      exact ⟨ret_int (by rw [unhide HM, List.take_of_length_le (by have := unhide HL; omega)]), rfl⟩

theorem rparts_any (A : Option Addr) (n c B : Nat) (l : List Pt) (w : World) (ha : PReads w B A n l) (hn : n ≤ maxLen) :
    Calls Tryd.prog 19 #[.slice A n c] w fun e w' => e = .returned (.int .i64 (partsE l)) ∧ w = w' := by
  unfold maxLen at hn
  have hl := ha.len
  by_cases h8 : 100 < n
  · have HE : Hid (partsE l = 4) := hide (by unfold partsE; rw [if_pos (by omega)])
    clear hl
    go_enter Tryd.func19, Tryd.ntmps19
    go_wp2
    go_ret
    exact ⟨ret_int (unhide HE).symm, rfl⟩
  · have HL := hide hl
    clear hl
    go_enter Tryd.func19, Tryd.ntmps19
    go_wp2
    go_loop [3, 4] (fun s i => ∃ (k : Nat) (m : Int), k ≤ n ∧ i = .int .i64 k ∧ s = .int .i64 m ∧ 0 ≤ m ∧ m ≤ 6000 * (k : Int) ∧ Hid (m = sizes (l.take k)) ∧ Hid (∀ x ∈ l.take k, ptGood x = true)) (fun _ i => n - (intOf i).toNat)
    case atStart => exact ⟨0, 0, Nat.zero_le _, rfl, rfl, by omega, by omega, hide rfl, hide (by simp)⟩
    case round =>
      obtain ⟨k, m, hk, rfl, rfl, hm0, hm1, HM, HG⟩ := hrel
      by_cases hlt : k < n
      · obtain ⟨b, o, x, rfl, hb, hx, c0, c1⟩ := ha.get hlt
        obtain ⟨x0, x1⟩ := x
        dsimp only at c0 c1
        have HX := hide hx
        clear hx
        by_cases h0 : 1 ≤ x0
        · have d0 : decide (x0 < 1) = false := by simp; omega
          by_cases h1 : x0 ≤ 6000
          · have d1 : decide (6000 < x0) = false := by simp; omega
            by_cases h2 : 0 ≤ x1
            · have d2 : decide (x1 < 0) = false := by simp; omega
              by_cases h3 : x1 < 1000003
              · have d3 : decide (1000002 < x1) = false := by simp; omega
                have HS := hide (sizes_next (unhide HX))
                go_wp2
                go_round
                case rel => exact ⟨k + 1, m + x0, by omega, by go_num, by go_num, by omega, by omega, hide (by rw [unhide HS, unhide HM]), hide (all_nextP (unhide HX) (unhide HG) (ptGood_t.2 ⟨h0, h1, h2, h3⟩))⟩
                case measure => simp [intOf]; omega
              · have d3 : decide (1000002 < x1) = true := by simp; omega
                have HE := hide (partsE_bad (unhide HX) (by dsimp only; omega) (by have := unhide HL; omega))
                go_wp2
                go_ret
                exact ⟨ret_int (unhide HE).symm, rfl⟩
            · have d2 : decide (x1 < 0) = true := by simp; omega
              have HE := hide (partsE_bad (unhide HX) (by dsimp only; omega) (by have := unhide HL; omega))
              go_wp2
              go_ret
              exact ⟨ret_int (unhide HE).symm, rfl⟩
          · have d1 : decide (6000 < x0) = true := by simp; omega
            have HE := hide (partsE_bad (unhide HX) (by dsimp only; omega) (by have := unhide HL; omega))
            go_wp2
            go_ret
            exact ⟨ret_int (unhide HE).symm, rfl⟩
        · have d0 : decide (x0 < 1) = true := by simp; omega
          have HE := hide (partsE_bad (unhide HX) (by dsimp only; omega) (by have := unhide HL; omega))
          go_wp2
          go_ret
          exact ⟨ret_int (unhide HE).symm, rfl⟩
      · obtain rfl : k = n := by omega
        have HE := hide (partsE_good (l := l) (by have := unhide HG; rwa [List.take_of_length_le (by have := unhide HL; omega)] at this) (by have := unhide HL; omega))
        have HM2 : Hid (m = sizes l) := hide (by rw [unhide HM, List.take_of_length_le (by have := unhide HL; omega)])
        by_cases h6 : 6000 < m
        · go_wp2
          go_ret
          exact ⟨ret_int (by rw [unhide HE, if_pos (by have := unhide HM2; omega)]), rfl⟩
        · go_wp2
          go_ret
          exact ⟨ret_int (by rw [unhide HE, if_neg (by have := unhide HM2; omega)]), rfl⟩

/-- the parts of a list of bytes: the first k of them -/
def partsOf (l : List Int) (sz k : Nat) : List Pt := (List.range k).map (ptOf l sz)
theorem partsOf_len (l : List Int) (sz k : Nat) : (partsOf l sz k).length = k := by simp [partsOf]
theorem partsOf_next (l : List Int) (sz k : Nat) : partsOf l sz (k + 1) = partsOf l sz k ++ [ptOf l sz k] := by simp [partsOf, List.range_succ]
theorem pcs_val {n sz : Nat} : ∀ k, (k = 0 ∨ (k - 1) * sz < n) → (pcs n sz k).map (·.1) = List.range k := by
  intro k
  induction k with
  | zero => intro _; rfl
  | succ k ih =>
    intro h
    have hk : k * sz < n := by
      rcases h with h | h
      · omega
      · simpa using h
    rw [pcs_next hk, List.map_append, ih (by
      rcases Nat.eq_zero_or_pos k with h0 | h0
      · exact .inl h0
      · exact .inr (Nat.lt_of_le_of_lt (Nat.mul_le_mul_right sz (by omega)) hk)), List.range_succ]
    rfl
theorem ptsOf_parts {n sz k : Nat} (l : List Int) (h : k = 0 ∨ (k - 1) * sz < n) : ptsOf l sz (pcs n sz k) = (partsOf l sz k).flatMap Pt.cells ∧ (pcs n sz k).length = k := by
  have hv := pcs_val k h
  constructor
  · unfold ptsOf partsOf
    rw [← hv, List.map_map, List.flatMap_map]
    rfl
  · have := congrArg List.length hv
    simpa using this
/-- how many pieces -/
def enough (n sz k : Nat) : Prop := n ≤ k * sz ∧ (k = 0 ∨ (k - 1) * sz < n)
theorem enough_one {n sz k k' : Nat} (h : enough n sz k) (h' : enough n sz k') : k = k' := by
  have key : ∀ {a b : Nat}, enough n sz a → enough n sz b → ¬ a < b := by
    intro a b ha hb hlt
    rcases hb.2 with h0 | h0
    · omega
    · have := Nat.mul_le_mul_right sz (show a ≤ b - 1 by omega)
      have := ha.1
      omega
  rcases Nat.lt_trichotomy k k' with h1 | h1 | h1
  · exact absurd h1 (key h h')
  · exact h1
  · exact absurd h1 (key h' h)
end Go.Proofs.YtijgiieoinmjhaaDoor
