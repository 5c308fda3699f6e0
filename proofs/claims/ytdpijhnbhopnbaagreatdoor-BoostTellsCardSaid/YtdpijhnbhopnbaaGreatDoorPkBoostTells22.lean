/- Part 22 of what LawBoostTells needs: RefValue. Conditions: as each lemma names. -/
import Derived.Test.YtdpijhnbhopnbaaGreatDoorPkBoostTells21
/- The reference's Value of a row: what the leaf says to which it comes. Conditions: the tree is right, the row has as many cells as it has features. -/
namespace Go.Proofs.YtdpijhnbhopnbaaGreatDoor
set_option linter.unusedVariables false
set_option linter.unusedSimpArgs false
open Go.RowKit

set_option maxRecDepth 100000 in
set_option maxHeartbeats 1000000 in
theorem rvalue_any (A C : Option Addr) (m d k q : Nat) (t : List Nd) (row : List Int) (w : World) (ht : NReads w w.heap.size A m t) (hr : IReads w w.heap.size C k row) (hR : Right t k) :
    Calls Tryz.prog 18 #[.slice A m d, .slice C k q] w fun e w' => e = .returned (.int .i64 (valOf t row)) ∧ Below w.heap.size w w' := by
  have hlen := ht.len
  have hm63 : m ≤ 63 := by have := hR.most; omega
  have hm0 : 0 < m := by have := hR.pos; omega
  have hk8 : k ≤ 8 := by have := hR.fe8; omega
  have hlf : leafOf t row < m := by
    have := leafFrom_lt hR.behind (row := row) t.length 0 (by rw [hlen]; exact hm0)
    rw [hlen] at this; unfold leafOf; rw [hlen]; exact this
  have hvo : valOf t row = valAt t (leafOf t row) := rfl
  have HC := hide (rleaf_any A C m d k q t row w ht hr hm0 hm63 hk8 hR.behind hR.asks)
  clear hR hlen
  go_enter Tryz.func18, Tryz.ntmps18
  go_wp2_with fail
  refine (unhide HC).mono ?_
  rintro e w1 ⟨v, rfl, ho, hb1⟩
  obtain ⟨b, o, x, rfl, hbb, hx, g0, g1, g2, g3, g4, g5⟩ := (ht.below hb1).get hlf
  rw [valAt_of hx] at hvo
  obtain ⟨lf, hlfe⟩ : ∃ lf, lf = leafOf t row := ⟨_, rfl⟩
  rw [← hlfe] at g5 hlf ⊢
  have HV := hide hvo
  clear HC hx g0 g1 g2 g3 g4 hlfe ho hvo
  go_wp2_with fail
  go_ret
  exact ⟨by rw [unhide HV]; rfl, hb1⟩
end Go.Proofs.YtdpijhnbhopnbaaGreatDoor
