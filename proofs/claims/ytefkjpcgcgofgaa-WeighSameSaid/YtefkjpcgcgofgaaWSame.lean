/- Package weigh: Same. Conditions: arguments read as lists. -/
import Derived.Test.YtefkjpcgcgofgaaInts
namespace Go.Proofs.Ytefkjpcgcgofgaa
set_option linter.unusedVariables false
set_option linter.unusedSimpArgs false
open Go.RowKit

/-- at how many places two lists are the same -/
def sameN (a b : List Int) : Nat := ((List.zip a b).filter fun p => p.1 == p.2).length
def sameE (a b : List Int) : Int := if a.length = b.length then (if 1000 < a.length then 4 else 0) else 3
def sameV (a b : List Int) : Int := if sameE a b = 0 then (sameN a b : Nat) else 0
theorem sameN_le (a b : List Int) : sameN a b ≤ a.length := by
  unfold sameN
  refine Nat.le_trans (List.length_filter_le _ _) ?_
  rw [List.length_zip]; omega
theorem sameN_next {a b : List Int} {k : Nat} {x y : Int} (hx : a[k]? = some x) (hy : b[k]? = some y) : sameN (a.take (k + 1)) (b.take (k + 1)) = sameN (a.take k) (b.take k) + if x = y then 1 else 0 := by
  have h1 : k < a.length := (List.getElem?_eq_some_iff.1 hx).1
  have h2 : k < b.length := (List.getElem?_eq_some_iff.1 hy).1
  unfold sameN
  rw [take_next hx, take_next hy, List.zip_append (by simp; omega), List.filter_append, List.length_append]
  congr 1
  by_cases h : x = y <;> simp [h]
theorem sameN_comm (a b : List Int) : sameN a b = sameN b a := by
  induction a generalizing b with
  | nil => cases b <;> rfl
  | cons x r ih =>
    cases b with
    | nil => rfl
    | cons y s =>
      have h := ih s
      unfold sameN at h ⊢
      rw [List.zip_cons_cons, List.zip_cons_cons, List.filter_cons, List.filter_cons]
      have e : (x == y) = (y == x) := by rw [Bool.eq_iff_iff, beq_iff_eq, beq_iff_eq]; exact eq_comm
      dsimp only
      rw [e]
      split <;> simp [h]
theorem sameN_self (a : List Int) : sameN a a = a.length := by
  induction a with
  | nil => rfl
  | cons x r ih =>
    unfold sameN at ih ⊢
    rw [List.zip_cons_cons, List.filter_cons]
    simp [ih]

set_option maxRecDepth 100000 in
set_option maxHeartbeats 1000000 in
theorem wsame_any (A C : Option Addr) (n m ca cc : Nat) (xs ys : List Int) (w : World) (BA BC : Nat) (ha : IReads w BA A n xs) (hc : IReads w BC C m ys) (hn : n ≤ maxLen) (hm : m ≤ maxLen) :
    Calls Try.prog 17 #[.slice A n ca, .slice C m cc] w fun e w' => e = .returned (.tuple #[.int .i64 (sameV xs ys), errV (sameE xs ys)]) ∧ w' = w := by
  unfold maxLen at hn hm
  have hlx := ha.len
  have hly := hc.len
  by_cases hnm : n = m
  · by_cases h1000 : 1000 < n
    · have hE : Hid (sameE xs ys = 4) := hide (by unfold sameE; rw [if_pos (by omega), if_pos (by omega)])
      have hV : Hid (sameV xs ys = 0) := hide (by unfold sameV; rw [if_neg (by rw [unhide hE]; decide)])
      have e1 : ((n : Int) != (m : Int)) = false := by simp [hnm]
      have e2 : decide (1000 < n) = true := decide_eq_true h1000
      have e3 : decide ((1000 : Int) < (n : Int)) = true := decide_eq_true (by omega)
      rw [unhide hE, unhide hV]
      clear ha hc hlx hly hnm h1000
      go_enter Try.func17, Try.ntmps17
      go_wp2_with fail
      go_ret2
      exact ⟨rfl, rfl⟩
    · have hE : Hid (sameE xs ys = 0) := hide (by unfold sameE; rw [if_pos (by omega), if_neg (by omega)])
      have hV : Hid (sameV xs ys = (sameN xs ys : Nat)) := hide (by unfold sameV; rw [if_pos (unhide hE)])
      have e1 : ((n : Int) != (m : Int)) = false := by simp [hnm]
      have e2 : decide (1000 < n) = false := decide_eq_false h1000
      have e3 : decide ((1000 : Int) < (n : Int)) = false := decide_eq_false (by omega)
      have HLX := hide hlx
      have HLY := hide hly
      subst hnm
      rw [unhide hE, unhide hV]
      clear hlx hly
      go_enter Try.func17, Try.ntmps17
      go_wp2_with fail
      go_loopw [6, 23] (fun v i wr => ∃ k V : Nat, k ≤ n ∧ i = .int .i64 k ∧ v = .int .i64 V ∧ V ≤ k ∧ Hid (V = sameN (xs.take k) (ys.take k)) ∧ wr = w) (fun _ i _ => n - (intOf i).toNat)
      case atStart => exact ⟨0, 0, Nat.zero_le _, rfl, rfl, Nat.zero_le _, hide (by simp [sameN]), rfl⟩
      case round =>
        obtain ⟨k, V, hk, rfl, rfl, hVk, HV, rfl⟩ := hrel
        by_cases hlt : k < n
        · obtain ⟨b, o, x, rfl, _, hx, hcx⟩ := ha.get hlt
          obtain ⟨b2, o2, y, rfl, _, hy, hcy⟩ := hc.get hlt
          have HN := hide (sameN_next hx hy)
          clear hx hy
          by_cases hxy : x = y
          · have hne : (x == y) = true := by simpa using hxy
            have HN2 := hide ((unhide HN).trans (by rw [if_pos hxy, ← unhide HV]))
            clear hxy
            go_wp2_with fail
            go_roundw
            case rel => exact ⟨k + 1, V + 1, by omega, by go_num, by go_num, by omega, hide (unhide HN2).symm, by trivial⟩
            case measure => simp [intOf]; omega
          · have hne : (x == y) = false := by simpa using hxy
            have HN2 := hide ((unhide HN).trans (by rw [if_neg hxy, ← unhide HV, Nat.add_zero]))
            clear hxy
            go_wp2_with fail
            go_roundw
            case rel => exact ⟨k + 1, V, by omega, by go_num, rfl, by omega, hide (unhide HN2).symm, by trivial⟩
            case measure => simp [intOf]; omega
        · obtain rfl : k = n := by omega
          have HX : Hid (V = sameN xs ys) := hide (by have := unhide HV; rwa [List.take_of_length_le (by rw [unhide HLX]; exact Nat.le_refl _), List.take_of_length_le (by rw [unhide HLY]; exact Nat.le_refl _)] at this)
          go_wp2_with fail
          go_ret2
          exact ⟨by rw [unhide HX]; rfl, rfl⟩
  · have hE : Hid (sameE xs ys = 3) := hide (by unfold sameE; rw [if_neg (by omega)])
    have hV : Hid (sameV xs ys = 0) := hide (by unfold sameV; rw [if_neg (by rw [unhide hE]; decide)])
    have e1 : ((n : Int) != (m : Int)) = true := by simp; omega
    rw [unhide hE, unhide hV]
    clear ha hc hlx hly
    go_enter Try.func17, Try.ntmps17
    go_wp2_with fail
    go_ret2
    exact ⟨rfl, rfl⟩
end Go.Proofs.Ytefkjpcgcgofgaa
