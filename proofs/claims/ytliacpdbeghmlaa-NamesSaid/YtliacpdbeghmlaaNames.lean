/- Names: the walk: the law's function returns true in every world, and turns no old block. Conditions: none. -/
import Derived.Test.YtliacpdbeghmlaaRows
import Derived.Test.YtliacpdbeghmlaaWords
namespace Go.Proofs.Ytliacpdbeghmlaa
open Go.RowKit
set_option maxRecDepth 100000 in
set_option maxHeartbeats 1600000 in
theorem names_walk (w : World) : Calls Try.prog 3 #[] w fun e w' => e = .returned (.bool true) ∧ Below w.heap.size w w' := by
  go_enter Try.func3, Try.ntmps3
  go_wp2
  go_rounds 11
  go_ret
  exact ⟨rfl, by go_grown⟩
end Go.Proofs.Ytliacpdbeghmlaa
