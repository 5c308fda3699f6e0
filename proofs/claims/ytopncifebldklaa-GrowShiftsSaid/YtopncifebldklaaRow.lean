/- Chapter 3 and the small parts of chapter 2: row.Check, cut.Check, row.In, row.Fits, cut.At. Conditions: as each lemma names (a slice reads as a list; cut.At: cuts that rise). -/
import Derived.Test.YtopncifebldklaaCut
namespace Go.Proofs.Ytopncifebldklaa
set_option linter.unusedVariables false
set_option linter.unusedSimpArgs false
open Go.RowKit

def nilC : Int := -1125899906842624
def rowGood (c : Int) : Bool := (c == nilC) || cellB c
def rowE (l : List Int) : Int := if 8 < l.length then 4 else if l.all rowGood then 0 else 1

theorem rowE_bad {l : List Int} {k : Nat} {x : Int} (h : l[k]? = some x) (hx : rowGood x = false) (hl : l.length ≤ 8) : rowE l = 1 := by
  unfold rowE
  rw [if_neg (by omega), if_neg]
  intro ha
  rw [List.all_eq_true] at ha
  have := ha x (List.mem_of_getElem? h)
  rw [hx] at this
  cases this
theorem rowE_good {l : List Int} (h : ∀ x ∈ l, rowGood x = true) (hl : l.length ≤ 8) : rowE l = 0 := by
  unfold rowE
  rw [if_neg (by omega), if_pos (List.all_eq_true.2 h)]
theorem rowGood_nil : rowGood (-1125899906842624) = true := by decide
theorem rowGood_cell {x : Int} (h1 : -1000000 ≤ x) (h2 : x ≤ 1000000) : rowGood x = true := by
  unfold rowGood; rw [cellB_t.2 ⟨h1, h2⟩]; simp
theorem rowGood_not {x : Int} (h : x ≠ -1125899906842624) (h2 : x < -1000000 ∨ 1000000 < x) : rowGood x = false := by
  unfold rowGood nilC; rw [cellB_f.2 h2]; simpa using h

set_option maxHeartbeats 400000 in
theorem rowCheck_any (A : Option Addr) (n c : Nat) (l : List Int) (w : World) (B : Nat) (ha : IReads w B A n l) (hn : n ≤ maxLen) :
    Calls Try.prog 31 #[.slice A n c] w fun e w' => e = .returned (errV (rowE l)) ∧ w = w' := by
  unfold maxLen at hn
  have hl := ha.len
  by_cases h8 : 8 < n
  · have HE : Hid (rowE l = 4) := hide (by unfold rowE; rw [if_pos (by omega)])
    clear hl
    go_enter Try.func31, Try.ntmps31
    go_wp2
    go_ret
    exact ⟨by rw [unhide HE]; rfl, rfl⟩
  · have HL := hide hl
    clear hl
    go_enter Try.func31, Try.ntmps31
    go_wp2
    go_loop [11] (fun i => ∃ k : Nat, k ≤ n ∧ i = .int .i64 k ∧ Hid (∀ x ∈ l.take k, rowGood x = true)) (fun i => n - (intOf i).toNat)
    case atStart => exact ⟨0, Nat.zero_le _, rfl, hide (by simp)⟩
    case round =>
      obtain ⟨k, hk, rfl, HG⟩ := hrel
      by_cases hlt : k < n
      · obtain ⟨b, o, x, rfl, _, hx, hcx⟩ := ha.get hlt
        have HX := hide hx
        clear hx
        by_cases h0 : x = -1125899906842624
        · subst h0
          go_wp2
          go_round
          case rel => exact ⟨k + 1, by omega, by go_num, hide (all_next (unhide HX) (unhide HG) rowGood_nil)⟩
          case measure => simp [intOf]; omega
        · by_cases h1 : -1000000 ≤ x
          · by_cases h2 : x ≤ 1000000
            · go_wp2
              go_round
              case rel => exact ⟨k + 1, by omega, by go_num, hide (all_next (unhide HX) (unhide HG) (rowGood_cell h1 h2))⟩
              case measure => simp [intOf]; omega
            · go_wp2
              go_ret
              exact ⟨by rw [rowE_bad (unhide HX) (rowGood_not h0 (by omega)) (by have := unhide HL; omega)]; rfl, rfl⟩
          · go_wp2
            go_ret
            exact ⟨by rw [rowE_bad (unhide HX) (rowGood_not h0 (by omega)) (by have := unhide HL; omega)]; rfl, rfl⟩
      · go_wp2
        go_ret
        have h1 := unhide HL
        have h2 := unhide HG
        rw [List.take_of_length_le (by omega)] at h2
        exact ⟨by rw [rowE_good h2 (by omega)]; rfl, rfl⟩

end Go.Proofs.Ytopncifebldklaa
