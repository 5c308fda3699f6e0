/- The references of chapter 3: Cell, none, Row. Conditions: a slice that reads as a list. -/
import Derived.Test.YtliacpdbeghmlaaDoorRow
namespace Go.Proofs.YtliacpdbeghmlaaDoor
set_option linter.unusedVariables false
set_option linter.unusedSimpArgs false
open Go.RowKit

theorem rcell_any (n : Int) (w : World) : Calls Tryd.prog 28 #[.int .i64 n] w fun e w' => e = .returned (.bool (cellB n)) ∧ w = w' := by
  by_cases h1 : -1000000 ≤ n
  · by_cases h2 : n ≤ 1000000
    · go_enter Tryd.func28, Tryd.ntmps28
      go_wp2
      go_ret
      exact ⟨by rw [cellB_t.2 ⟨h1, h2⟩]; rfl, rfl⟩
    · go_enter Tryd.func28, Tryd.ntmps28
      go_wp2
      go_ret
      exact ⟨by rw [cellB_f.2 (by omega)]; rfl, rfl⟩
  · go_enter Tryd.func28, Tryd.ntmps28
    go_wp2
    go_ret
    exact ⟨by rw [cellB_f.2 (by omega)]; rfl, rfl⟩

theorem rnone_any (n : Int) (w : World) : Calls Tryd.prog 47 #[.int .i64 n] w fun e w' => e = .returned (.bool (n == -1125899906842624)) ∧ w = w' := by
  go_enter Tryd.func47, Tryd.ntmps47
  go_wp2
  go_ret
  exact ⟨rfl, rfl⟩

set_option maxRecDepth 100000 in
theorem rrow_any (A : Option Addr) (n c : Nat) (l : List Int) (w : World) (B : Nat) (ha : IReads w B A n l) (hn : n ≤ maxLen) :
    Calls Tryd.prog 32 #[.slice A n c] w fun e w' => e = .returned (.int .i64 (rowE l)) ∧ w = w' := by
  have hl := ha.len
  unfold maxLen at hn
  by_cases h8 : 8 < n
  · have HE : Hid (rowE l = 4) := hide (by unfold rowE; rw [if_pos (by omega)])
    clear hl
    go_enter Tryd.func32, Tryd.ntmps32
    go_wp2_with fail
    go_ret
    exact ⟨ret_int (unhide HE).symm, rfl⟩
  · have HL := hide hl
    clear hl
    go_enter Tryd.func32, Tryd.ntmps32
    go_wp2_with fail
    go_loop [3] (fun i => ∃ k : Nat, k ≤ n ∧ i = .int .i64 k ∧ Hid (∀ y ∈ l.take k, rowGood y = true)) (fun i => n - (intOf i).toNat)
    case atStart => exact ⟨0, Nat.zero_le _, rfl, hide (by simp)⟩
    case round =>
      obtain ⟨k, hk, rfl, HG⟩ := hrel
      by_cases hlt : k < n
      · obtain ⟨b, o, x, rfl, hb, hx, cx⟩ := ha.get hlt
        have HX := hide hx
        clear hx
        by_cases hc : cellB x = true
        · have HC := hide hc
          clear hc
          go_wp2_with fail
          refine (rcell_any _ _).mono ?_; rintro e w1 ⟨rfl, rfl⟩; rw [unhide HC]
          go_wp2_with fail
          refine (rnone_any _ _).mono ?_; rintro e w1 ⟨rfl, rfl⟩
          go_wp2_with fail
          go_round
          case rel => exact ⟨k + 1, by omega, by go_num, hide (all_next (unhide HX) (unhide HG) (by simp [rowGood, unhide HC]))⟩
          case measure => simp [intOf]; omega
        · have hc2 : cellB x = false := by simpa using hc
          have HC := hide hc2
          clear hc hc2
          by_cases hn2 : x = -1125899906842624
          · have q : (x == -1125899906842624) = true := by simpa using hn2
            have HN := hide q
            clear q hn2
            go_wp2_with fail
            refine (rcell_any _ _).mono ?_; rintro e w1 ⟨rfl, rfl⟩; rw [unhide HC]
            go_wp2_with fail
            refine (rnone_any _ _).mono ?_; rintro e w1 ⟨rfl, rfl⟩; rw [unhide HN]
            go_wp2_with fail
            go_round
            case rel => exact ⟨k + 1, by omega, by go_num, hide (all_next (unhide HX) (unhide HG) (by have := unhide HN; simp [rowGood, nilC] at this ⊢; exact .inl this))⟩
            case measure => simp [intOf]; omega
          · have q : (x == -1125899906842624) = false := by simpa using hn2
            have HN := hide q
            have HE : Hid (rowE l = 1) := hide (rowE_bad (unhide HX) (by simp [rowGood, nilC, unhide HC]; exact hn2) (by have := unhide HL; omega))
            clear q hn2
            go_wp2_with fail
            refine (rcell_any _ _).mono ?_; rintro e w1 ⟨rfl, rfl⟩; rw [unhide HC]
            go_wp2_with fail
            refine (rnone_any _ _).mono ?_; rintro e w1 ⟨rfl, rfl⟩; rw [unhide HN]
            go_wp2_with fail
            go_ret
            exact ⟨ret_int (unhide HE).symm, rfl⟩
      · have HE : Hid (rowE l = 0) := hide (by
          have h2 := unhide HG
          rw [List.take_of_length_le (by have := unhide HL; omega)] at h2
          exact rowE_good h2 (by have := unhide HL; omega))
        go_wp2_with fail
        go_ret
        exact ⟨ret_int (unhide HE).symm, rfl⟩
end Go.Proofs.YtliacpdbeghmlaaDoor
