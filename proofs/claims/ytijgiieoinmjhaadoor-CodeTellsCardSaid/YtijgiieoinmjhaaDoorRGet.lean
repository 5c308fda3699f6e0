/- Chapter 14 in the references: Get. Conditions: bytes that are bytes. -/
import Derived.Test.YtijgiieoinmjhaaDoorCode
namespace Go.Proofs.YtijgiieoinmjhaaDoor
set_option linter.unusedVariables false
set_option linter.unusedSimpArgs false
open Go.RowKit

theorem unzig_odd {g : Nat} (h : g % 2 = 1) : unzig g = -((g : Int) / 2) - 1 := by unfold unzig; rw [if_neg (by omega)]; omega
theorem unzig_even {g : Nat} (h : g % 2 = 0) : unzig g = (g : Int) / 2 := by unfold unzig; rw [if_pos h]; omega
set_option maxRecDepth 100000 in
set_option maxHeartbeats 4000000 in
theorem rget_any (A : Option Addr) (n c B : Nat) (l : List Int) (w : World) (hr : BReads w B A n l) (hn : n ≤ maxLen) (hby : ∀ x ∈ l, 0 ≤ x ∧ x < 256) :
    Calls Tryd.prog 39 #[.slice A n c] w fun e w' => e = .returned (.tuple #[.int .i64 (getV l).1, .int .i64 ((getV l).2.1 : Int), .int .i64 (getV l).2.2]) ∧ w = w' := by
  have HL := hide hr.len
  have HBY := hide hby
  clear hby
  unfold maxLen at hn
  go_enter Tryd.func39, Tryd.ntmps39
  go_wp2_with fail
  go_loop [5, 6, 7] (fun x u i => ∃ k x' p : Nat, k ≤ n ∧ k ≤ 9 ∧ i = .int .i64 k ∧ x = .int .u64 x' ∧ u = .int .u64 p ∧ Hid (p = 2 ^ (7 * k)) ∧ 0 < p ∧ p ≤ 9223372036854775808 ∧ Hid (x' < 2 ^ (7 * k)) ∧ x' < 18446744073709551616 ∧ Hid (getFrom k x' (l.drop k) = getV l)) (fun _ _ i => n - (intOf i).toNat)
  case atStart => exact ⟨0, 0, 1, Nat.zero_le _, by omega, rfl, rfl, rfl, hide (by decide), by omega, by omega, hide (by decide), by omega, hide rfl⟩
  case round =>
    obtain ⟨k, x, p, hk, hk9, rfl, rfl, rfl, HP, hp0, hp9, HX, hx64, HF⟩ := hrel
    by_cases hlt : k < n
    · obtain ⟨b, o, y', rfl, hbb, hy, cy⟩ := hr.get hlt
      obtain ⟨hy0, hy256⟩ := (unhide HBY) y' (List.mem_of_getElem? hy)
      obtain ⟨y, rfl⟩ : ∃ y : Nat, y' = y := ⟨y'.toNat, by omega⟩
      have HY := hide hy
      clear hy
      by_cases hA : k = 9 ∧ 1 < y
      · have HE := hide (get_err (unhide HY) (unhide HF) (.inl ⟨hA.1, by omega⟩))
        have a1 : ((k : Int) == 9) = true := by simp; omega
        have a2 : 1 < y := hA.2
        clear hA HX HF HP
        go_wp2_with fail
        go_ret3
        exact ⟨by rw [unhide HE]; rfl, rfl⟩
      by_cases hC : 0 < k ∧ y = 0
      · have HE := hide (get_err (unhide HY) (unhide HF) (.inr ⟨hC.1, by omega⟩))
        obtain ⟨a1, hy0⟩ := hC
        have hqi : (IntKind.u64.wrap (p * 128)) = IntKind.u64.wrap (p * 128) := rfl
        subst hy0
        clear hA HX HF HP hqi
        by_cases h9 : k = 9
        · have a9 : ((k : Int) == 9) = true := by simp; omega
          clear h9
          go_wp2_with fail
          go_ret3
          exact ⟨by rw [unhide HE]; rfl, rfl⟩
        · have a9 : ((k : Int) == 9) = false := by simp; omega
          clear h9
          go_wp2_with fail
          go_ret3
          exact ⟨by rw [unhide HE]; rfl, rfl⟩
      have hno : ¬ ((k = 9 ∧ 1 < (y : Int)) ∨ (0 < k ∧ (y : Int) = 0)) := by omega
      have hbd := get_bound hk9 (unhide HX) (y := y) (by omega)
      obtain ⟨q, hq⟩ : ∃ q : Nat, q = y % 128 * 2 ^ (7 * k) := ⟨_, rfl⟩
      have hqi : ((y : Int) % 128) * (p : Int) = (q : Int) := by rw [hq, unhide HP]; simp
      obtain ⟨g, hg⟩ : ∃ g, g = x + y % 128 * 2 ^ (7 * k) := ⟨_, rfl⟩
      have hgi : (x : Int) + (q : Int) = (g : Int) := by rw [hg, hq]; omega
      have HSM := hide (get_small (y := y) (unhide HX))
      rw [← hg] at hbd HSM
      have hq64 : q < 18446744073709551616 := by omega
      have q3 : (¬ ((k : Int) = 9 ∧ (1 : Int) < y)) := by omega
      by_cases h128 : y < 128
      · have HE := hide (get_done (unhide HY) (unhide HF) hno h128)
        rw [← hg] at HE
        have H9 : Hid (k = 9 → p = 9223372036854775808) := hide (fun h => by rw [unhide HP, h])
        have H8 : Hid (k ≠ 9 → p ≤ 72057594037927936) := hide (fun h => by
          rw [unhide HP]
          have : 2 ^ (7 * k) ≤ 2 ^ 56 := Nat.pow_le_pow_right (by omega) (by omega)
          exact Nat.le_trans this (by decide))
        have HG := hide hg
        have HQ := hide hq
        clear hq hg HF HX HP
        rcases Nat.mod_two_eq_zero_or_one g with hm | hm
        all_goals
          have HU := hide (show unzig g = _ from by first | exact unzig_even hm | exact unzig_odd hm)
          by_cases h9 : k = 9
          · have hp := unhide H9 h9
            rw [hp, show ((9223372036854775808 : Nat) : Int) = 9223372036854775808 from rfl] at hqi
            subst h9
            subst hp
            have q1 : decide ((1 : Int) < y) = false := by simp; omega
            have q2 : ((y : Int) == 0) = false := by simp; omega
            first | (have dm : ((g : Int) % 2 == 1) = false := by simp; omega) | (have dm : ((g : Int) % 2 == 1) = true := by simp; omega)
            clear hno hA hC H9 H8 q3
            go_wp2_with fail
            go_ret3
            refine ⟨?_, rfl⟩
            rw [unhide HE, unhide HU]
            rfl
          · have hp := unhide H8 h9
            have a9 : ((k : Int) == 9) = false := by simp; omega
            first | (have dm : ((g : Int) % 2 == 1) = false := by simp; omega) | (have dm : ((g : Int) % 2 == 1) = true := by simp; omega)
            by_cases h0 : 0 < k
            · have q2 : ((y : Int) == 0) = false := by simp; omega
              clear hno hA hC H9 H8 q3 h9
              go_wp2_with fail
              go_ret3
              refine ⟨?_, rfl⟩
              rw [unhide HE, unhide HU]
              rfl
            · clear hno hA hC H9 H8 q3 h9
              go_wp2_with fail
              go_ret3
              refine ⟨?_, rfl⟩
              rw [unhide HE, unhide HU]
              rfl
      · have HE := hide (get_next (unhide HY) (unhide HF) hno h128)
        rw [← hg] at HE
        have h9 : k ≤ 8 := by omega
        have a9 : ((k : Int) == 9) = false := by simp; omega
        have q2 : ((y : Int) == 0) = false := by simp; omega
        have hp : p ≤ 72057594037927936 := by
          rw [unhide HP]
          have : 2 ^ (7 * k) ≤ 2 ^ 56 := Nat.pow_le_pow_right (by omega) (by omega)
          exact Nat.le_trans this (by decide)
        have HP2 : Hid (p * 128 = 2 ^ (7 * (k + 1))) := hide (by rw [unhide HP, show 7 * (k + 1) = 7 * k + 7 by omega, Nat.pow_add])
        have HG := hide hg
        have HQ := hide hq
        clear hno hA hC HF hg hq HX q3 HP
        by_cases h0 : 0 < k
        · go_wp2_with fail
          go_round
          case rel => exact ⟨k + 1, g, p * 128, by omega, by omega, by go_num, rfl, by go_num, HP2, by omega, by omega, HSM, hbd, HE⟩
          case measure => simp [intOf] <;> omega
        · go_wp2_with fail
          go_round
          case rel => exact ⟨k + 1, g, p * 128, by omega, by omega, by go_num, rfl, by go_num, HP2, by omega, by omega, HSM, hbd, HE⟩
          case measure => simp [intOf] <;> omega
    · have HE : Hid (getV l = (0, 0, 8)) := hide (by rw [← unhide HF, List.drop_of_length_le (by have := unhide HL; omega)]; rfl)
      clear HX HF HP
      go_wp2_with fail
      go_ret3
      exact ⟨by rw [unhide HE]; rfl, rfl⟩
end Go.Proofs.YtijgiieoinmjhaaDoor
