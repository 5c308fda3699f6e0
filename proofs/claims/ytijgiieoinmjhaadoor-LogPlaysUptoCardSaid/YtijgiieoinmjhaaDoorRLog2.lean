/- The reference's log: Sync, Append. Conditions: as each lemma names. -/
import Derived.Test.YtijgiieoinmjhaaDoorRLog
namespace Go.Proofs.YtijgiieoinmjhaaDoor
set_option linter.unusedVariables false
set_option linter.unusedSimpArgs false
open Go.RowKit

def RlS (w : World) (m B0 : Nat) (S : LS) : Prop := LsOk S ∧ S.left ≤ 9223372036854775807 ∧ ∃ vC rs A n c, RlIs w m B0 vC rs A n c S.bs (recs S.cs).length S.safe (max (-1) S.left) S.st ∧ rs.map Cv.c = S.cs
theorem RlS.below {w w' : World} {m B0 B : Nat} {S : LS} (h : RlS w m B0 S) (hb : Below B w w') (hB : w.heap.size ≤ B) : RlS w' m B0 S := by
  obtain ⟨h1, h2, vC, rs, A, n, c, h3, h4⟩ := h
  exact ⟨h1, h2, vC, rs, A, n, c, h3.below hb hB, h4⟩
theorem RlS.chg {w w' : World} {m B0 g : Nat} {S : LS} {t : TypeId} {cs : Array Value} (h : RlS w m B0 S) (hg : Blk w g t cs) (h1 : t ≠ 66) (h2 : t ≠ 53) (h3 : 5 ≠ t) (hc : Chg g w w') (hgB : B0 ≤ g) : RlS w' m B0 S := by
  obtain ⟨q1, q2, vC, rs, A, n, c, q3, q4⟩ := h
  exact ⟨q1, q2, vC, rs, A, n, c, q3.chg hg h1 h2 h3 hc hgB, q4⟩

set_option maxHeartbeats 1000000 in
theorem rsync_any (m B0 : Nat) (S : LS) (w : World) (h : RlS w m B0 S) :
    Calls Tryd.prog 31 #[.pointer (some ⟨m, 0, none⟩)] w fun e w' => e = .returned (.int .i64 S.syncE) ∧ RlS w' m B0 S.sync ∧ Chg m w w' := by
  obtain ⟨cs, tail, safe, left, st⟩ := S
  obtain ⟨hok, hl, vC, rs, A, n, c, hi, hmap⟩ := h
  dsimp only at hl hi hmap
  obtain ⟨c0, c1, c2, c3, c4, c5⟩ := hi.cells
  have hok2 := hok.sync_
  have hbl : (LS.bs ⟨cs, tail, safe, left, st⟩).length = n := hi.reads.len
  cases st with
  | true =>
    have he : LS.syncE ⟨cs, tail, safe, left, true⟩ = 9 := rfl
    have hs : LS.sync ⟨cs, tail, safe, left, true⟩ = ⟨cs, tail, safe, left, true⟩ := rfl
    rw [he, hs]
    go_enter Tryd.func31, Tryd.ntmps31
    go_wp2_with fail
    go_ret
    exact ⟨rfl, ⟨hok, hl, vC, rs, A, n, c, hi, hmap⟩, Chg.refl _ _⟩
  | false =>
    have hst := hide (rstep_any m B0 vC rs A n c _ _ safe left false w hi hl)
    by_cases h0 : left = 0
    · have he : LS.syncE ⟨cs, tail, safe, left, false⟩ = 9 := by simp [LS.syncE, h0]
      have hs : LS.sync ⟨cs, tail, safe, left, false⟩ = ⟨cs, tail, safe, left - 1, true⟩ := by simp [LS.sync, h0]
      rw [he, hs]
      rw [hs] at hok2
      clear he hs
      rw [show (false || decide (left = 0)) = true by simp [h0]] at hst
      go_enter Tryd.func31, Tryd.ntmps31
      go_wp2_with fail
      refine (unhide hst).mono ?_
      rintro e w1 ⟨rfl, hi1, hc1⟩
      go_wp2_with fail
      go_ret
      exact ⟨rfl, ⟨hok2, by show left - 1 ≤ 9223372036854775807; omega, vC, rs, A, n, c, hi1, hmap⟩, hc1⟩
    · have he : LS.syncE ⟨cs, tail, safe, left, false⟩ = 0 := by simp [LS.syncE, h0]
      have hs : LS.sync ⟨cs, tail, safe, left, false⟩ = ⟨cs, tail, n, left - 1, false⟩ := by simp [LS.sync, h0, hbl]
      rw [he, hs]
      rw [hs] at hok2
      clear he hs
      rw [show (false || decide (left = 0)) = false by simp [h0]] at hst
      go_enter Tryd.func31, Tryd.ntmps31
      go_wp2_with fail
      refine (unhide hst).mono ?_
      rintro e w1 ⟨rfl, hi1, hc1⟩
      obtain ⟨e0, e1, e2, e3, e4, e5⟩ := hi1.cells
      have f3 := hi1.blk.frozen 3
      have hi2 := hi1.set3 n
      have hc2 := hc1.set_ 3 (.int .i64 (n : Int))
      go_wp2_with fail
      go_ret
      exact ⟨rfl, ⟨hok2, by show left - 1 ≤ 9223372036854775807; omega, vC, rs, A, n, c, hi2, hmap⟩, hc2⟩
end Go.Proofs.YtijgiieoinmjhaaDoor
