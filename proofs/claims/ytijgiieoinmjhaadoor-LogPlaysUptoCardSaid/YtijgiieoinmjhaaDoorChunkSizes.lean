/- The law ChunkSizes, walked. Conditions: a slice that reads as bytes; a number. -/
import Derived.Test.YtijgiieoinmjhaaDoorChunkPlan
namespace Go.Proofs.YtijgiieoinmjhaaDoor
set_option linter.unusedVariables false
set_option linter.unusedSimpArgs false
open Go.RowKit

def ptsL (l : List Int) (s k : Nat) : List Pt := (List.range k).map (ptOf l s)
theorem ptsL_at {l : List Int} {s k j : Nat} (h : j < k) : (ptsL l s k)[j]? = some (ptOf l s j) := by simp [ptsL, h]
theorem ptsL_len (l : List Int) (s k : Nat) : (ptsL l s k).length = k := by simp [ptsL]
theorem ptsL_next (l : List Int) (s k : Nat) : ptsL l s (k + 1) = ptsL l s k ++ [ptOf l s k] := by simp [ptsL, List.range_succ]
theorem ptsOf_pcs {n s : Nat} (l : List Int) (hs : 1 ≤ s) : ∀ k, (k = 0 ∨ (k - 1) * s < n) → ptsOf l s (pcs n s k) = (ptsL l s k).flatMap Pt.cells ∧ (pcs n s k).length = k := by
  intro k
  induction k with
  | zero => intro _; simp [pcs, ptsOf, ptsL]
  | succ k ih =>
    intro h
    have hk : k * s < n := by rcases h with h | h; omega; simpa using h
    have h2 : k = 0 ∨ (k - 1) * s < n := by
      rcases Nat.eq_zero_or_pos k with h0 | h0
      · exact .inl h0
      · exact .inr (Nat.lt_of_le_of_lt (Nat.mul_le_mul_right s (by omega)) hk)
    obtain ⟨i1, i2⟩ := ih h2
    rw [pcs_next hk, ptsOf_next, ptsL_next, List.flatMap_append, i1, List.length_append, i2]
    exact ⟨by simp [Pt.cells, ptOf], by simp⟩
theorem size_at {l : List Int} {s n j : Nat} (hl : l.length = n) : (ptOf l s j).size = ((min s (n - j * s) : Nat) : Int) := by simp [ptOf, piece_len, hl]
theorem sizes_pts {l : List Int} {s n : Nat} (hl : l.length = n) : ∀ k, sizes (ptsL l s k) = ((min (k * s) n : Nat) : Int) := by
  intro k
  induction k with
  | zero => simp [sizes, ptsL]
  | succ k ih =>
    rw [ptsL_next, sizes, List.map_append, List.sum_append]
    rw [sizes] at ih
    rw [ih]
    simp only [List.map_cons, List.map_nil, List.sum_cons, List.sum_nil]
    rw [size_at hl, Nat.add_mul, Nat.one_mul]
    omega
theorem pts_ok {l : List Int} {s n k : Nat} (hl : l.length = n) (hs : 1 ≤ s) (hs2 : s ≤ 6000) (hn : n ≤ 6000) (hk : k = 0 ∨ (k - 1) * s < n) (hk100 : k ≤ 100) : partsE (ptsL l s k) = 0 := by
  rw [partsE_good ?_ (by rw [ptsL_len]; exact hk100), sizes_pts hl, if_neg (by omega)]
  intro x hx
  obtain ⟨j, hj, rfl⟩ := List.mem_map.1 hx
  rw [List.mem_range] at hj
  have hjn : j * s < n := by
    rcases hk with h | h
    · omega
    · exact Nat.lt_of_le_of_lt (Nat.mul_le_mul_right s (by omega)) h
  rw [ptGood_t, size_at hl]
  have := sumV_in (piece l s j)
  refine ⟨by omega, by omega, this.1, this.2⟩
theorem ceil_is {n s k : Nat} (hs : 1 ≤ s) (h1 : n ≤ k * s) (h2 : k = 0 ∨ (k - 1) * s < n) : (n + s - 1) / s = k := by
  rcases h2 with rfl | h2
  · have : n = 0 := by omega
    subst this
    rw [Nat.div_eq_of_lt (by omega)]
  · obtain ⟨j, rfl⟩ : ∃ j, k = j + 1 := ⟨k - 1, by
      rcases Nat.eq_zero_or_pos k with h | h
      · subst h; simp at h1; omega
      · omega⟩
    rw [Nat.add_mul, Nat.one_mul] at h1
    simp at h2
    rw [Nat.div_eq_iff (by omega)]
    rw [Nat.add_mul, Nat.one_mul]
    omega
theorem ceil_int {n s k : Nat} (hs : 1 ≤ s) (h : (n + s - 1) / s = k) : ((n : Int) + s - 1) / s = k := by
  have e : (n : Int) + s - 1 = ((n + s - 1 : Nat) : Int) := by omega
  rw [e, ← Int.natCast_ediv, h]
theorem few {n s k : Nat} (hs : 1 ≤ s) (h2 : k = 0 ∨ (k - 1) * s < n) (h : n ≤ 100 * s) : k ≤ 100 := by
  rcases h2 with rfl | h2
  · omega
  · have : (k - 1) * s < 100 * s := by omega
    have := Nat.lt_of_mul_lt_mul_right this
    omega
theorem many {n s : Nat} (hs : 1 ≤ s) (h : 100 * s < n) : 100 < ((n : Int) + s - 1) / s := by
  have e : (n : Int) + s - 1 = ((n + s - 1 : Nat) : Int) := by omega
  rw [e, ← Int.natCast_ediv]
  have : 101 ≤ (n + s - 1) / s := by rw [Nat.le_div_iff_mul_le (by omega)]; omega
  omega
theorem sum_nil_ (W : World) : Calls Tryd.prog 15 #[.slice none 0 0] W fun e w' => e = .returned (.int .i64 7) ∧ W = w' :=
  sum_any none 0 0 0 [] W ⟨rfl, fun h => absurd h (by omega)⟩ (Nat.zero_le _) (by simp)

end Go.Proofs.YtijgiieoinmjhaaDoor
