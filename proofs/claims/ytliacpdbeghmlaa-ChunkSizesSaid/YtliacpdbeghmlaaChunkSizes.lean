/- The law ChunkSizes, walked. Conditions: a slice that reads as bytes; a number. -/
import Derived.Test.YtliacpdbeghmlaaChunkPlan
namespace Go.Proofs.Ytliacpdbeghmlaa
set_option linter.unusedVariables false
set_option linter.unusedSimpArgs false
open Go.RowKit

def ptsL (l : List Int) (s k : Nat) : List Pt := (List.range k).map (ptOf l s)
theorem ptsL_at {l : List Int} {s k j : Nat} (h : j < k) : (ptsL l s k)[j]? = some (ptOf l s j) := by simp [ptsL, h]
theorem ptsL_len (l : List Int) (s k : Nat) : (ptsL l s k).length = k := by simp [ptsL]
theorem ptsL_next (l : List Int) (s k : Nat) : ptsL l s (k + 1) = ptsL l s k ++ [ptOf l s k] := by simp [ptsL, List.range_succ]
theorem ptsOf_pcs {n s : Nat} (l : List Int) (hs : 1 ≤ s) : ∀ k, (k = 0 ∨ (k - 1) * s < n) → ptsOf l s (pcs n s k) = (ptsL l s k).flatMap Pt.cells ∧ (pcs n s k).length = k := by
  intro k
  induction k with
  | zero => intro _; simp [pcs, ptsOf, ptsL]
  | succ k ih =>
    intro h
    have hk : k * s < n := by rcases h with h | h; omega; simpa using h
    have h2 : k = 0 ∨ (k - 1) * s < n := by
      rcases Nat.eq_zero_or_pos k with h0 | h0
      · exact .inl h0
      · exact .inr (Nat.lt_of_le_of_lt (Nat.mul_le_mul_right s (by omega)) hk)
    obtain ⟨i1, i2⟩ := ih h2
    rw [pcs_next hk, ptsOf_next, ptsL_next, List.flatMap_append, i1, List.length_append, i2]
    exact ⟨by simp [Pt.cells, ptOf], by simp⟩
theorem size_at {l : List Int} {s n j : Nat} (hl : l.length = n) : (ptOf l s j).size = ((min s (n - j * s) : Nat) : Int) := by simp [ptOf, piece_len, hl]
theorem sizes_pts {l : List Int} {s n : Nat} (hl : l.length = n) : ∀ k, sizes (ptsL l s k) = ((min (k * s) n : Nat) : Int) := by
  intro k
  induction k with
  | zero => simp [sizes, ptsL]
  | succ k ih =>
    rw [ptsL_next, sizes, List.map_append, List.sum_append]
    rw [sizes] at ih
    rw [ih]
    simp only [List.map_cons, List.map_nil, List.sum_cons, List.sum_nil]
    rw [size_at hl, Nat.add_mul, Nat.one_mul]
    omega
theorem pts_ok {l : List Int} {s n k : Nat} (hl : l.length = n) (hs : 1 ≤ s) (hs2 : s ≤ 6000) (hn : n ≤ 6000) (hk : k = 0 ∨ (k - 1) * s < n) (hk100 : k ≤ 100) : partsE (ptsL l s k) = 0 := by
  rw [partsE_good ?_ (by rw [ptsL_len]; exact hk100), sizes_pts hl, if_neg (by omega)]
  intro x hx
  obtain ⟨j, hj, rfl⟩ := List.mem_map.1 hx
  rw [List.mem_range] at hj
  have hjn : j * s < n := by
    rcases hk with h | h
    · omega
    · exact Nat.lt_of_le_of_lt (Nat.mul_le_mul_right s (by omega)) h
  rw [ptGood_t, size_at hl]
  have := sumV_in (piece l s j)
  refine ⟨by omega, by omega, this.1, this.2⟩
theorem ceil_is {n s k : Nat} (hs : 1 ≤ s) (h1 : n ≤ k * s) (h2 : k = 0 ∨ (k - 1) * s < n) : (n + s - 1) / s = k := by
  rcases h2 with rfl | h2
  · have : n = 0 := by omega
    subst this
    rw [Nat.div_eq_of_lt (by omega)]
  · obtain ⟨j, rfl⟩ : ∃ j, k = j + 1 := ⟨k - 1, by
      rcases Nat.eq_zero_or_pos k with h | h
      · subst h; simp at h1; omega
      · omega⟩
    rw [Nat.add_mul, Nat.one_mul] at h1
    simp at h2
    rw [Nat.div_eq_iff (by omega)]
    rw [Nat.add_mul, Nat.one_mul]
    omega
theorem ceil_int {n s k : Nat} (hs : 1 ≤ s) (h : (n + s - 1) / s = k) : ((n : Int) + s - 1) / s = k := by
  have e : (n : Int) + s - 1 = ((n + s - 1 : Nat) : Int) := by omega
  rw [e, ← Int.natCast_ediv, h]
theorem few {n s k : Nat} (hs : 1 ≤ s) (h2 : k = 0 ∨ (k - 1) * s < n) (h : n ≤ 100 * s) : k ≤ 100 := by
  rcases h2 with rfl | h2
  · omega
  · have : (k - 1) * s < 100 * s := by omega
    have := Nat.lt_of_mul_lt_mul_right this
    omega
theorem many {n s : Nat} (hs : 1 ≤ s) (h : 100 * s < n) : 100 < ((n : Int) + s - 1) / s := by
  have e : (n : Int) + s - 1 = ((n + s - 1 : Nat) : Int) := by omega
  rw [e, ← Int.natCast_ediv]
  have : 101 ≤ (n + s - 1) / s := by rw [Nat.le_div_iff_mul_le (by omega)]; omega
  omega
theorem sum_nil_ (W : World) : Calls Try.prog 18 #[.slice none 0 0] W fun e w' => e = .returned (.int .i64 7) ∧ W = w' :=
  sum_any none 0 0 0 [] W ⟨rfl, fun h => absurd h (by omega)⟩ (Nat.zero_le _) (by simp)

set_option maxRecDepth 100000 in
set_option maxHeartbeats 4000000 in
theorem chunkSizes_walk (A : Option Addr) (n c : Nat) (l : List Int) (sz : Int) (w : World) (hr : BReads w w.heap.size A n l) (hn : n ≤ maxLen) (hnc : n ≤ c) (hby : ∀ x ∈ l, 0 ≤ x ∧ x < 256) :
    Calls Try.prog 5 #[.slice A n c, .int .i64 sz] w fun e w' => e = .returned (.bool true) ∧ Below w.heap.size w w' := by
  have hp := fun W (h : W = w) => (h ▸ plan_any A n c w.heap.size l sz w hr (Nat.le_refl _) hn hnc hby : Calls Try.prog 16 #[.slice A n c, .int .i64 sz] W (PlanPost w.heap.size n l sz w))
  have hll := hr.len
  unfold maxLen at hn
  go_enter Try.func5, Try.ntmps5
  go_wp2_with fail
  refine (hp _ rfl).mono ?_
  clear hp
  rintro e w1 ⟨v, rfl, hE1, hE2, hbel⟩
  by_cases h1 : 6000 < n
  · rw [errV_1 (by rw [planE_1 h1]; decide)]
    rw [hE1 (by rw [planE_1 h1]; decide)]
    clear hE1 hE2
    by_cases ha : sz < 1
    · go_wp2_with fail
      go_ret
      exact ⟨rfl, hbel⟩
    · by_cases hb : 6000 < sz
      · go_wp2_with fail
        go_ret
        exact ⟨rfl, hbel⟩
      · go_wp2_with fail
        go_ret
        exact ⟨rfl, hbel⟩
  by_cases h2 : sz < 1 ∨ 6000 < sz
  · rw [errV_1 (by rw [planE_2 h1 h2]; decide)]
    rw [hE1 (by rw [planE_2 h1 h2]; decide)]
    clear hE1 hE2
    by_cases ha : sz < 1
    · go_wp2_with fail
      go_ret
      exact ⟨rfl, hbel⟩
    · have hb : 6000 < sz := by omega
      go_wp2_with fail
      go_ret
      exact ⟨rfl, hbel⟩
  have h2a : ¬ sz < 1 := by omega
  have h3 : ¬ 6000 < sz := by omega
  obtain ⟨s, rfl⟩ : ∃ s : Nat, sz = s := ⟨sz.toNat, by omega⟩
  have hs1 : 1 ≤ s := by omega
  by_cases h4 : 100 * (s : Int) < n
  · rw [errV_1 (by rw [planE_3 h1 h2a h3 h4]; decide)]
    rw [hE1 (by rw [planE_3 h1 h2a h3 h4]; decide)]
    clear hE1 hE2
    have hm := many (n := n) hs1 (by omega)
    go_wp2_with fail
    go_ret
    exact ⟨ret_bool (by simp [hm]), hbel⟩
  obtain ⟨k, hk1, hk2, hown⟩ := hE2 (planE_4 h1 h2a h3 h4)
  rw [errV_0 (planE_4 h1 h2a h3 h4)]
  clear hE1 hE2
  simp only [Int.toNat_natCast] at hk1 hk2 hown
  obtain ⟨hP1, hP2⟩ := ptsOf_pcs l hs1 k hk2
  rw [hP1, hP2] at hown
  clear hP1 hP2
  obtain ⟨vA, vc, rfl, hv1, hv2, hv3⟩ := own_slice hown
  have hv : PReads w1 w1.heap.size vA k (ptsL l s k) := hv1
  have hk100 := few hs1 hk2 (by omega : n ≤ 100 * s)
  have HCEIL := hide (ceil_int hs1 (ceil_is hs1 hk1 hk2))
  have HOK := hide (pts_ok hll hs1 (by omega) (by omega) hk2 hk100)
  have HK1 := hide hk1
  have HK2 := hide hk2
  have HLL := hide hll
  clear hk1 hk2 hown hv1 hll hr hby h4
  go_wp2_with fail
  go_loop [7, 8] (fun q i => ∃ j m : Nat, j ≤ k ∧ i = .int .i64 j ∧ q = .int .i64 m ∧ m ≤ 6000 ∧ Hid (m = min (j * s) n)) (fun _ i => k - (intOf i).toNat)
  case atStart => exact ⟨0, 0, Nat.zero_le _, rfl, rfl, by omega, hide (by simp)⟩
  case round =>
    obtain ⟨j, m, hj, rfl, rfl, hm, HM⟩ := hrel
    by_cases hlt : j < k
    · obtain ⟨b, o, x, rfl, hb, hx, c0, _⟩ := hv.get hlt
      have hjn : j * s < n := by
        rcases unhide HK2 with h | h
        · omega
        · exact Nat.lt_of_le_of_lt (Nat.mul_le_mul_right s (by omega)) h
      rw [ptsL_at hlt] at hx
      obtain rfl : ptOf l s j = x := by injection hx
      rw [size_at (unhide HLL)] at c0
      obtain ⟨e, he, he1, he2, he3⟩ : ∃ e, min s (n - j * s) = e ∧ 1 ≤ e ∧ e ≤ s ∧ m + e ≤ 6000 := ⟨_, rfl, by omega, by omega, by have := unhide HM; omega⟩
      rw [he] at c0
      have HME : Hid (m + e = min ((j + 1) * s) n) := hide (by rw [unhide HM, Nat.add_mul, Nat.one_mul]; omega)
      have HES : Hid (j + 1 < k → e = s) := hide (fun h => by
        have : (j + 1) * s ≤ (k - 1) * s := Nat.mul_le_mul_right s (by omega)
        rcases unhide HK2 with h0 | h0
        · omega
        · rw [Nat.add_mul, Nat.one_mul] at this; omega)
      clear hx hjn he
      by_cases hlast : j + 1 < k
      · obtain rfl := (unhide HES) hlast
        go_wp2_with fail
        go_round
        case rel => exact ⟨j + 1, m + e, by omega, by go_num, by go_num, by omega, HME⟩
        case measure => simp [intOf]; omega
      · go_wp2_with fail
        go_round
        case rel => exact ⟨j + 1, m + e, by omega, by go_num, by go_num, by omega, HME⟩
        case measure => simp [intOf]; omega
    · obtain rfl : j = k := by omega
      obtain rfl : m = n := by have := unhide HM; have := unhide HK1; omega
      have hceil := unhide HCEIL
      go_wp2_with fail
      refine (parts_any vA j vc _ _ _ hv (Nat.le_refl _) (by unfold maxLen; omega)).mono ?_
      rintro e w2 ⟨rfl, hb2⟩
      rw [errV_0 (unhide HOK)]
      go_wp2_with fail
      refine (sum_nil_ _).mono ?_
      rintro e w' ⟨rfl, rfl⟩
      go_wp2_with fail
      go_ret
      exact ⟨rfl, hbel.trans (hb2.mono hbel.size)⟩
end Go.Proofs.Ytliacpdbeghmlaa
