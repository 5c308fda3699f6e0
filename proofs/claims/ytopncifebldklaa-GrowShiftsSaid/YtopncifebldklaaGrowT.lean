/- Package grow in plain words: two samples, a tree of them; what is told of samples with all targets a little more. Conditions: none. -/
import Derived.Test.YtopncifebldklaaGrowQ
namespace Go.Proofs.Ytopncifebldklaa
set_option linter.unusedVariables false
set_option linter.unusedSimpArgs false
open Go.RowKit

theorem sort_two {a b : Int} (h : a ≤ b) : sortL [a, b] = [a, b] := (sortL_of (List.Perm.refl _) (by simp [h])).symm
theorem compact_two : compactL [1, 2] = [1, 2] := by decide
theorem two_fit (A B : Option Addr) (c d : Nat) : fitE [⟨A, 1, c, [1], 5⟩, ⟨B, 1, d, [2], 9⟩] 1 1 1 = 0 ∧ fitT [⟨A, 1, c, [1], 5⟩, ⟨B, 1, d, [2], 9⟩] 1 1 1 = [⟨0, 2, 1, 2, false, 0⟩, ⟨-1, 0, 0, 0, false, 5⟩, ⟨-1, 0, 0, 0, false, 9⟩] := by
  have hE : fitE [⟨A, 1, c, [1], 5⟩, ⟨B, 1, d, [2], 9⟩] 1 1 1 = 0 := by kernel_rfl
  refine ⟨hE, ?_⟩
  unfold fitT
  rw [if_pos hE]
  have hc : cutsF [⟨A, 1, c, [1], 5⟩, ⟨B, 1, d, [2], 9⟩] 0 = [2] := by
    unfold cutsF
    rw [show [(⟨A, 1, c, [1], 5⟩ : Sm), ⟨B, 1, d, [2], 9⟩].map (cellS 0) = [1, 2] from rfl, sort_two (by omega), compact_two]
    rfl
  have hb : bestB [⟨A, 1, c, [1], 5⟩, ⟨B, 1, d, [2], 9⟩] 1 1 = ⟨0, 2, 106, 1⟩ := by
    show bestF _ 1 (startB _) 0 = _
    unfold bestF
    rw [hc]
    kernel_rfl
  show layK 0 (growK 1 1 1 _) = _
  simp only [growK]
  rw [hb]
  kernel_rfl

theorem leaf_v {ss : List Sm} {n : Nat} (hs : SRight ss n) : -1000 ≤ (leafG ss).v ∧ (leafG ss).v ≤ 1000 := by
  have h := sumM_le hs.tlo hs.thi
  have hp := hs.pos
  unfold leafG
  dsimp only
  have h0 : (0 : Int) < (ss.length : Int) := by omega
  constructor
  · rw [Int.le_ediv_iff_mul_le h0]; omega
  · have := (Int.ediv_le_iff_le_mul h0 (x := sumM ss) (y := 1000)).2 (by omega)
    exact this
theorem growK_v {n least : Nat} (hl : 1 ≤ least) : ∀ (d : Nat) (ss : List Sm) (k : Nat), SRight ss n → ∀ y ∈ layK k (growK n least d ss), -1000 ≤ y.v ∧ y.v ≤ 1000 := by
  intro d
  induction d with
  | zero =>
    intro ss k hs y hy
    simp only [growK, layK, List.mem_singleton] at hy
    subst hy
    exact leaf_v hs
  | succ d ih =>
    intro ss k hs y hy
    have hB := bestB_ok hs hl
    simp only [growK] at hy
    by_cases h : (bestB ss n least).f < 0
    · rw [if_pos h] at hy
      simp only [layK, List.mem_singleton] at hy
      subst hy
      exact leaf_v hs
    · rw [if_neg h] at hy
      obtain ⟨_, _, _, _, _, _, _, _, hz⟩ := hB
      rcases hz with hz | ⟨h1, h2⟩
      · exact absurd hz h
      simp only [layK, List.mem_cons, List.mem_append] at hy
      rcases hy with rfl | hy | hy
      · exact ⟨by dsimp only; omega, by dsimp only; omega⟩
      · exact ih _ _ (hs.low (by omega)) y hy
      · exact ih _ _ (hs.high (by omega)) y hy
theorem fit_parts {ss : List Sm} {fe depth least : Int} (h : fitE ss fe depth least = 0) : ∃ n : Nat, fe = n ∧ SRight ss n ∧ 1 ≤ least.toNat ∧ fitT ss fe depth least = layK 0 (growK n least.toNat depth.toNat ss) := by
  have h' := h
  unfold fitE at h
  by_cases h0 : sampE ss fe = 0
  · rw [if_pos h0] at h
    by_cases h1 : depth < 0 ∨ 5 < depth ∨ least < 1 ∨ 60 < least
    · rw [if_pos h1] at h; cases h
    · obtain ⟨n, hn, hs⟩ := samp_right h0
      refine ⟨n, hn, hs, by omega, ?_⟩
      unfold fitT
      rw [if_pos h', hn]
      rfl
  · rw [if_neg h0] at h; exact absurd h h0
theorem fit_v {ss : List Sm} {fe depth least : Int} (h : fitE ss fe depth least = 0) : ∀ y ∈ fitT ss fe depth least, -1000 ≤ y.v ∧ y.v ≤ 1000 := by
  obtain ⟨n, hn, hs, hl, e⟩ := fit_parts h
  rw [e]
  exact growK_v hl _ _ _ hs
theorem fit_len {ss : List Sm} {fe depth least : Int} (h : fitE ss fe depth least = 0) : (fitT ss fe depth least).length ≤ 1000000 := by
  obtain ⟨n, hn, hs, hl, e⟩ := fit_parts h
  have h' := h
  unfold fitE at h
  rw [e, layK_len]
  have := growK_size n least.toNat depth.toNat ss
  have hd : depth.toNat ≤ 5 := by
    by_cases h0 : sampE ss fe = 0
    · rw [if_pos h0] at h
      by_cases h1 : depth < 0 ∨ 5 < depth ∨ least < 1 ∨ 60 < least
      · rw [if_pos h1] at h; cases h
      · omega
    · rw [if_neg h0] at h; exact absurd h h0
  have hp : 2 ^ (depth.toNat + 1) ≤ 2 ^ 6 := Nat.pow_le_pow_right (by omega) (by omega)
  omega
theorem fitT_sh {ss : List Sm} {fe depth least b : Int} (h : fitE ss fe depth least = 0) (h2 : fitE (ss.map (shS b)) fe depth least = 0) : fitT (ss.map (shS b)) fe depth least = (fitT ss fe depth least).map (shN b) := by
  obtain ⟨n, hn, hs, hl, e⟩ := fit_parts h
  obtain ⟨n', hn', hs', _, e'⟩ := fit_parts h2
  obtain rfl : n = n' := by omega
  rw [e, e', growK_sh hl _ _ hs, layK_sh b _ _ (growK_ok _ _ _ _)]
theorem fitE_samp {ss m : List Sm} {fe depth least : Int} (h : fitE ss fe depth least = 0) (h2 : fitE m fe depth least ≠ 0) : sampE m fe ≠ 0 := by
  intro e
  unfold fitE at h h2
  rw [if_pos e] at h2
  by_cases h0 : sampE ss fe = 0
  · rw [if_pos h0] at h; exact h2 h
  · rw [if_neg h0] at h; exact absurd h h0
theorem shS_next {b : Int} {ss : List Sm} {k : Nat} {s : Sm} (h : ss[k]? = some s) : (ss.take (k + 1)).map (shS b) = (ss.take k).map (shS b) ++ [shS b s] := by rw [take_next h, List.map_append]; rfl
end Go.Proofs.Ytopncifebldklaa
