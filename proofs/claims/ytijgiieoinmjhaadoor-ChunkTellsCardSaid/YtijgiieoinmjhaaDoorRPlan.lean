/- Chapter 15 in the references: Plan; orchsame.Parts of two lists that are the same. Conditions: as each lemma names. -/
import Derived.Test.YtijgiieoinmjhaaDoorRefChunk
import Derived.Test.YtijgiieoinmjhaaDoorChunkSizes
import Derived.Deep.CutRange
namespace Go.Proofs.YtijgiieoinmjhaaDoor
set_option linter.unusedVariables false
set_option linter.unusedSimpArgs false
open Go.RowKit

theorem piece_bytesP {l : List Int} {s j : Nat} (h : ∀ x ∈ l, 0 ≤ x ∧ x < 256) : ∀ x ∈ piece l s j, 0 ≤ x ∧ x < 256 := fun x hx => h x (List.mem_of_mem_drop (List.mem_of_mem_take hx))
theorem few_not {n s k : Nat} (hs : 1 ≤ s) (h2 : k = 0 ∨ (k - 1) * s < n) (h : 100 < k) : 100 * s < n := by
  rcases h2 with h2 | h2
  · omega
  · have := Nat.mul_le_mul_right s (show 100 ≤ k - 1 by omega)
    omega
set_option maxRecDepth 100000 in
theorem same_part (a b : Int) (W : World) : (binOp .neq 30 (.agg #[.int .i64 a, .int .i64 b]) (.agg #[.int .i64 a, .int .i64 b])).run Tryd.prog W = .ok (.bool false) W := by
  have u := Tryd.underlying30
  have ui := Tryd.underlying3
  rw [run_neq_struct, run_equalIn_agg _ _ _ _ _ (by unfold Program.fieldsOf; rw [u]) (by kernel_rfl)]
  simp only [Program.fieldsOf, u]
  simp [Op.eqFields, part, go_sem, ui]
set_option maxRecDepth 100000 in
set_option maxHeartbeats 1000000 in
theorem sameParts_any (A C : Option Addr) (n ca cc : Nat) (xs : List Pt) (w : World) (BA BC : Nat) (ha : PReads w BA A n xs) (hc : PReads w BC C n xs) (hn : n ≤ maxLen) :
    Calls Tryd.prog 18 #[.slice A n ca, .slice C n cc] w fun e w' => e = .returned (.bool true) ∧ ∃ q, w' = w.drewN q := by
  unfold maxLen at hn
  have e0 : ((n : Int) != (n : Int)) = false := by simp
  go_enter Tryd.func18, Tryd.ntmps18
  go_wp2
  go_loopw [5] (fun i wr => ∃ k q : Nat, k ≤ n ∧ i = .int .i64 k ∧ wr = w.drewN q) (fun i _ => n - (intOf i).toNat)
  case atStart => exact ⟨0, 0, Nat.zero_le _, rfl, rfl⟩
  case round =>
    obtain ⟨k, q, hk, rfl, rfl⟩ := hrel
    by_cases hlt : k < n
    · obtain ⟨b, o, x, rfl, _, hx, c0, c1⟩ := ha.get hlt
      obtain ⟨b2, o2, y, rfl, _, hy, d0, d1⟩ := hc.get hlt
      rw [hx] at hy
      injection hy with hy
      subst hy
      obtain ⟨f, c⟩ := x
      dsimp only at c0 c1 d0 d1
      have hneq := same_part f c
      clear hx
      go_wp2_with fail
      go_quiet (fail)
      go_wp2_with fail
      go_roundw
      case rel => exact ⟨k + 1, q + nq, by omega, by go_num, by first | rfl | rw [World.drewN_drewN]⟩
      case measure => simp [intOf]; omega
    · go_wp2
      go_ret
      exact ⟨rfl, q, rfl⟩

def RPlanPost (n : Nat) (l : List Int) (sz : Int) (w : World) (e : Ending) (w' : World) : Prop :=
  ∃ v, e = .returned (.tuple #[v, .int .i64 (planE n sz)]) ∧ (planE n sz ≠ 0 → v = .slice none 0 0) ∧
    (planE n sz = 0 → ∃ k, n ≤ k * sz.toNat ∧ (k = 0 ∨ (k - 1) * sz.toNat < n) ∧ w'.ownsRow w.heap.size 30 2 v k ((ptsL l sz.toNat k).flatMap Pt.cells)) ∧ Below w.heap.size w w'
theorem ptsL_step (l : List Int) (s k : Nat) : (ptsL l s (k + 1)).flatMap Pt.cells = (ptsL l s k).flatMap Pt.cells ++ [.int .i64 ((piece l s k).length : Int), .int .i64 (sumV (piece l s k))] := by
  rw [ptsL_next, List.flatMap_append]
  rfl

set_option maxRecDepth 100000 in
set_option maxHeartbeats 4000000 in
theorem rplan_any (A : Option Addr) (n c B : Nat) (l : List Int) (sz : Int) (w : World) (hr : BReads w B A n l) (hB : B ≤ w.heap.size) (hn : n ≤ maxLen) (hnc : n ≤ c) (hby : ∀ x ∈ l, 0 ≤ x ∧ x < 256) :
    Calls Tryd.prog 17 #[.slice A n c, .int .i64 sz] w (RPlanPost n l sz w) := by
  have hnm := hn
  unfold maxLen at hn
  by_cases h1 : 6000 < n
  · have HE := hide (planE_1 (sz := sz) h1)
    have d1 : decide (6000 < (n : Int)) = true := by simp; omega
    go_enter Tryd.func17, Tryd.ntmps17
    go_wp2
    go_ret2
    exact ⟨_, by rw [unhide HE]; rfl, fun _ => rfl, fun h => (by rw [unhide HE] at h; cases h), Below.refl _ _⟩
  have d1 : decide (6000 < (n : Int)) = false := by simp; omega
  by_cases h2 : sz < 1
  · have HE := hide (planE_2 h1 (.inl h2))
    have d2 : decide (sz < 1) = true := by simp; omega
    go_enter Tryd.func17, Tryd.ntmps17
    go_wp2
    go_ret2
    exact ⟨_, by rw [unhide HE]; rfl, fun _ => rfl, fun h => (by rw [unhide HE] at h; cases h), Below.refl _ _⟩
  have d2 : decide (sz < 1) = false := by simp; omega
  by_cases h3 : 6000 < sz
  · have HE := hide (planE_2 h1 (.inr h3))
    have d3 : decide (6000 < sz) = true := by simp; omega
    go_enter Tryd.func17, Tryd.ntmps17
    go_wp2
    go_ret2
    exact ⟨_, by rw [unhide HE]; rfl, fun _ => rfl, fun h => (by rw [unhide HE] at h; cases h), Below.refl _ _⟩
  have d3 : decide (6000 < sz) = false := by simp; omega
  obtain ⟨s, rfl⟩ : ∃ s : Nat, sz = s := ⟨sz.toNat, by omega⟩
  have hs1 : 1 ≤ s := by omega
  have hs2 : s ≤ 6000 := by omega
  have HBY := hide hby
  clear hby
  go_enter Tryd.func17, Tryd.ntmps17
  go_wp2
  go_loopw [6, 7] (fun v i wr => ∃ k : Nat, k ≤ 6000 ∧ i = .int .i64 ((k * s : Nat) : Int) ∧ Hid (k = 0 ∨ (k - 1) * s < n) ∧ Hid (wr.ownsRow w.heap.size 30 2 v k ((ptsL l s k).flatMap Pt.cells)) ∧ Below w.heap.size w wr) (fun _ i _ => n - (intOf i).toNat)
  case atStart => exact ⟨0, by omega, by simp, hide (.inl rfl), hide (World.ownsRow_nil _ _ _ _), Below.refl _ _⟩
  case round =>
    obtain ⟨k, hk, rfl, HK, HO, hbel⟩ := hrel
    have hsz := hbel.size
    obtain ⟨F, hF⟩ : ∃ F, F = k * s := ⟨_, rfl⟩
    by_cases hlt : F < n
    · have hF1 : (k + 1) * s = F + s := by rw [hF, Nat.add_mul, Nat.one_mul]
      have hkF : k ≤ F := by rw [hF]; exact Nat.le_mul_of_pos_right k hs1
      obtain ⟨bA, oA, hAe, _⟩ := Reads.spot hr (show 0 < n by omega) (by omega)
      have hpc : BReads wr B (some ⟨bA, oA + F, none⟩) (min s (n - F)) (piece l s k) := by
        rw [hF]
        exact reads_piece (by rw [← hAe]; exact Reads.below hr (hbel.mono hB)) (by omega) hs1
      have hml := hpc.len
      have HML := hide hml
      have HNX := hide (ptsL_step l s k)
      have hpb := piece_bytesP (s := s) (j := k) (unhide HBY)
      have HPB := hide hpb
      have HF1 := hide hF1
      have HF := hide hF
      have hown := unhide HO
      have hk9 : k < 1000000000 := by omega
      have hFc : F < c := by omega
      clear HO hml hpb hF1
      rw [← hF]
      clear hF
      subst hAe
      by_cases h4 : n < F + s
      · have d4 : decide ((n : Int) < (F : Int) + (s : Int)) = true := by simp; omega
        have hm : min s (n - F) = n - F := by omega
        rw [hm] at hpc HML
        obtain ⟨m, hm'⟩ : ∃ m, m = n - F := ⟨_, rfl⟩
        rw [← hm'] at hpc HML
        have hsum := hide (fun W h => rsum_any (some ⟨bA, oA + F, none⟩) m (c - F) B (piece l s k) W h (by unfold maxLen; omega) (unhide HPB))
        have hHm := hide hm'
        have hv1 : ((n : Int) - (F : Int)) = (m : Int) := by omega
        go_wp2_with fail
        rw [← hm']
        clear hm'
        refine (unhide hsum wr hpc).mono ?_
        rintro e w1 ⟨rfl, rfl⟩
        go_wp2_with (at_builtin; refine app_one elem_part (.tmp 40) (.tmp 46) [.int .i64 (m : Int), .int .i64 (sumV (piece l s k))] rfl rfl rfl hown rfl rfl rfl (by intro u hu; simp at hu; rcases hu with rfl | rfl <;> rfl) hk9 hsz ?_; intro v2 w2 hown2 hb2 _ _)
        rw [← show ((piece l s k).length : Int) = (m : Int) by exact congrArg Nat.cast (unhide HML), ← unhide HNX] at hown2
        go_wp2_with fail
        go_roundw
        case rel => exact ⟨k + 1, by omega, by rw [unhide HF1]; go_num, hide (.inr (by have := unhide HF; rw [Nat.add_sub_cancel]; omega)), hide hown2, hbel.trans hb2⟩
        case measure => simp [intOf]; omega
      · have d4 : decide ((n : Int) < (F : Int) + (s : Int)) = false := by simp; omega
        have hm : min s (n - F) = s := by omega
        rw [hm] at hpc HML
        have hsum := hide (fun W h => rsum_any (some ⟨bA, oA + F, none⟩) s (c - F) B (piece l s k) W h (by unfold maxLen; omega) (unhide HPB))
        have hv1 : ((F : Int) + (s : Int) - (F : Int)) = (s : Int) := by omega
        have hv2 : F + s - F = s := by omega
        go_wp2_with fail
        rw [hv2]
        refine (unhide hsum wr hpc).mono ?_
        rintro e w1 ⟨rfl, rfl⟩
        go_wp2_with (at_builtin; refine app_one elem_part (.tmp 40) (.tmp 46) [.int .i64 (s : Int), .int .i64 (sumV (piece l s k))] rfl rfl rfl hown rfl rfl rfl (by intro u hu; simp at hu; rcases hu with rfl | rfl <;> rfl) hk9 hsz ?_; intro v2 w2 hown2 hb2 _ _)
        rw [← show ((piece l s k).length : Int) = (s : Int) by exact congrArg Nat.cast (unhide HML), ← unhide HNX] at hown2
        go_wp2_with fail
        go_roundw
        case rel => exact ⟨k + 1, by omega, by rw [unhide HF1]; go_num, hide (.inr (by have := unhide HF; rw [Nat.add_sub_cancel]; omega)), hide hown2, hbel.trans hb2⟩
        case measure => simp [intOf]; omega
    · rw [← hF]
      have hnk : n ≤ k * s := by omega
      clear hF
      by_cases h5 : 100 < k
      · have d5 : decide (100 < (k : Int)) = true := by simp; omega
        have HE : Hid (planE n s = 4) := hide (planE_3 h1 (by omega) (by omega) (by
          have h6 := few_not hs1 (unhide HK) h5
          omega))
        have hown := unhide HO
        obtain ⟨vA, vc, rfl, _, _, _⟩ := own_slice hown
        clear hown
        go_wp2_with fail
        go_ret2
        exact ⟨_, by rw [unhide HE]; rfl, fun _ => rfl, fun h => (by rw [unhide HE] at h; cases h), hbel⟩
      · have d5 : decide (100 < (k : Int)) = false := by simp; omega
        have HE : Hid (planE n s = 0) := hide (planE_4 h1 (by omega) (by omega) (by
          have h6 : k * s ≤ 100 * s := Nat.mul_le_mul_right s (by omega)
          omega))
        have hown := unhide HO
        obtain ⟨vA, vc, rfl, _, _, _⟩ := own_slice hown
        go_wp2_with fail
        go_ret2
        exact ⟨_, by rw [unhide HE]; rfl, fun h => absurd (unhide HE) h, fun _ => ⟨k, by simpa using hnk, by simpa using unhide HK, by simpa using hown⟩, hbel⟩
end Go.Proofs.YtijgiieoinmjhaaDoor
