/- Chapter 5's spans: path.Some, path.Any, path.Wide, path.Side, slices.Clone of spans. Conditions: as each lemma names. -/
import Derived.Test.YtefkjpcgcgofgaaRow2
import Derived.Test.YtefkjpcgcgofgaaTree
import Derived.Test.YtefkjpcgcgofgaaTreeMath
import Derived.Test.YtefkjpcgcgofgaaCodeRow
namespace Go.Proofs.Ytefkjpcgcgofgaa
set_option linter.unusedVariables false
set_option linter.unusedSimpArgs false
open Go.RowKit

def someB (s : Sp) : Bool := decide (s.low ≤ s.high) || s.ab
def anyB (l : List Sp) : Bool := l.all someB

theorem some_any (lo hi : Int) (ab : Bool) (w : World) :
    Calls Try.prog 55 #[.agg #[.int .i64 lo, .int .i64 hi, .bool ab]] w fun e w' => e = .returned (.bool (someB ⟨lo, hi, ab⟩)) ∧ Below w.heap.size w w' := by
  by_cases h1 : lo ≤ hi
  · have HE : Hid (someB ⟨lo, hi, ab⟩ = true) := hide (by simp [someB, h1])
    go_enter Try.func55, Try.ntmps55
    go_wp2
    go_ret
    exact ⟨by rw [unhide HE]; rfl, by go_grown⟩
  · have HE : Hid (someB ⟨lo, hi, ab⟩ = ab) := hide (by simp [someB, h1])
    go_enter Try.func55, Try.ntmps55
    go_wp2
    go_ret
    exact ⟨by rw [unhide HE]; rfl, by go_grown⟩

theorem any1_any (lo hi : Int) (ab : Bool) (w : World) :
    Calls Try.prog 54 #[.agg #[.int .i64 lo, .int .i64 hi, .bool ab]] w fun e w' => e = .returned (.bool (!someB ⟨lo, hi, ab⟩)) ∧ Below w.heap.size w w' := by
  go_enter Try.func54, Try.ntmps54
  go_wp2_with fail
  refine (some_any lo hi ab _).mono ?_
  rintro e w1 ⟨rfl, hb1⟩
  go_wp2_with fail
  go_ret
  exact ⟨rfl, ((Below.refl _ _).alloc (Nat.le_refl _) _).trans (hb1.mono (by simp))⟩

def badAtS : List Sp → Nat → Int
  | [], _ => -1
  | s :: r, k => if someB s then badAtS r (k + 1) else (k : Int)
theorem badAtS_any : ∀ (l : List Sp) (k : Nat), (badAtS l k < 0 ↔ anyB l = true) := by
  intro l
  induction l with
  | nil => intro k; simp [badAtS, anyB]
  | cons s r ih =>
    intro k
    rw [badAtS]
    by_cases h : someB s = true
    · rw [if_pos h, ih (k + 1)]; simp [anyB, h]
    · rw [if_neg h]; simp [anyB, h]
theorem badAtS_drop {l : List Sp} {k : Nat} {s : Sp} (h : l[k]? = some s) : badAtS (l.drop k) k = if someB s then badAtS (l.drop (k + 1)) (k + 1) else (k : Int) := by
  have : l.drop k = s :: l.drop (k + 1) := by
    obtain ⟨hk, e⟩ := List.getElem?_eq_some_iff.1 h
    rw [List.drop_eq_getElem_cons hk, e]
  rw [this, badAtS]

theorem index_any (A : Option Addr) (n c B : Nat) (l : List Sp) (w : World) (hr : SReads w B A n l) (hB : B ≤ w.heap.size) (hn : n ≤ 100000000) :
    Calls Try.prog 77 #[.slice A n c, .func (.func 54) #[] #[]] w fun e w' => e = .returned (.int .i64 (badAtS l 0)) ∧ Below w.heap.size w w' := by
  have HL := hide hr.len
  go_enter Try.func77, Try.ntmps77
  go_wp2_with fail
  go_loopw [8] (fun i wr => ∃ k : Nat, k ≤ n ∧ i = .int .i64 k ∧ Hid (badAtS (l.drop k) k = badAtS l 0) ∧ Below w.heap.size w wr) (fun i _ => n - (intOf i).toNat)
  case atStart => exact ⟨0, Nat.zero_le _, rfl, hide (by simp), Below.refl _ _⟩
  case round =>
    obtain ⟨k, hk, rfl, HG, hbel⟩ := hrel
    by_cases hlt : k < n
    · obtain ⟨b, o, x, rfl, hb, hx, c0, c1, c2⟩ := (hr.below (hbel.mono hB)).get hlt
      have HD := hide (badAtS_drop hx)
      obtain ⟨x0, x1, x2⟩ := x
      dsimp only at c0 c1 c2
      clear hx
      go_wp2_with fail
      refine (any1_any x0 x1 x2 _).mono ?_
      rintro e w1 ⟨rfl, hb1⟩
      by_cases hs : someB ⟨x0, x1, x2⟩ = true
      · rw [hs]
        have HD2 := hide (unhide HD)
        go_wp2_with fail
        go_roundw
        case rel => exact ⟨k + 1, by omega, by go_num, hide (by rw [← unhide HG, unhide HD, if_pos hs]), hbel.trans (hb1.mono hbel.size)⟩
        case measure => simp [intOf]; omega
      · have hs2 : someB ⟨x0, x1, x2⟩ = false := by simpa using hs
        rw [hs2]
        go_wp2_with fail
        go_ret
        exact ⟨ret_int (by rw [← unhide HG, unhide HD, if_neg hs]), hbel.trans (hb1.mono hbel.size)⟩
    · have h0 : badAtS l 0 = -1 := by
        rw [← unhide HG, List.drop_of_length_le (by have := unhide HL; omega)]; rfl
      have H0 := hide h0
      clear h0
      go_wp2_with fail
      go_ret
      exact ⟨ret_int (unhide H0).symm, hbel⟩

theorem any_any (A : Option Addr) (n c B : Nat) (l : List Sp) (w : World) (hr : SReads w B A n l) (hB : B ≤ w.heap.size) (hn : n ≤ 100000000) :
    Calls Try.prog 35 #[.slice A n c] w fun e w' => e = .returned (.bool (anyB l)) ∧ Below w.heap.size w w' := by
  have hcon : ∀ w, SReads w B A n l → B ≤ w.heap.size → Calls Try.prog 53 #[.slice A n c, .func (.func 54) #[] #[]] w fun e w' => e = .returned (.bool (!anyB l)) ∧ Below w.heap.size w w' := by
    intro w hr hB
    have HB := hide (badAtS_any l 0)
    go_enter Try.func53, Try.ntmps53
    go_wp2_with fail
    refine (index_any A n c B l _ hr hB hn).mono ?_
    rintro e w1 ⟨rfl, hb1⟩
    go_wp2_with fail
    go_ret
    refine ⟨ret_bool ?_, hb1⟩
    have := unhide HB
    by_cases h : badAtS l 0 < 0
    · rw [this.1 h]; simp; omega
    · have h2 : anyB l = false := by
        rcases Bool.eq_false_or_eq_true (anyB l) with h3 | h3
        · exact absurd (this.2 h3) h
        · exact h3
      rw [h2]; simp; omega
  go_enter Try.func35, Try.ntmps35
  go_wp2_with fail
  refine (hcon _ hr hB).mono ?_
  rintro e w1 ⟨rfl, hb1⟩
  go_wp2_with fail
  go_ret
  exact ⟨ret_bool (by simp), hb1⟩
end Go.Proofs.Ytefkjpcgcgofgaa
