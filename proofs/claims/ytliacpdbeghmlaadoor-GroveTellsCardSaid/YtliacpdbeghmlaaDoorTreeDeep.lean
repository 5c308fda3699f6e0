/- TreeDeep: the walk of the law's function. Conditions: arguments read as lists. -/
import Derived.Test.YtliacpdbeghmlaaDoorPath
namespace Go.Proofs.YtliacpdbeghmlaaDoor
set_option linter.unusedVariables false
set_option linter.unusedSimpArgs false
open Go.RowKit

def tree3 (a b : Int) : List Nd := [⟨0, 0, 1, 2, false, 0⟩, ⟨-1, 0, 0, 0, false, a⟩, ⟨-1, 0, 0, 0, false, b⟩]
theorem tree3_right : treeE (tree3 0 0) 8 = 0 := by decide
theorem tree3_depth : depthV (tree3 0 0) = 1 := by decide

theorem fact_depth (w : World) : Calls Tryd.prog 9 #[.slice (some ⟨w.heap.size, 0, none⟩) 3 3]
    (w.alloc (.cells #[.int .i64 0, .int .i64 0, .int .i64 1, .int .i64 2, .bool false, .int .i64 0, .int .i64 (-1), .int .i64 0, .int .i64 0, .int .i64 0, .bool false, .int .i64 0, .int .i64 (-1), .int .i64 0, .int .i64 0, .int .i64 0, .bool false, .int .i64 0] 33))
    fun e w' => e = .returned (.tuple #[.int .i64 1, .nilIface]) ∧ Below w.heap.size w w' := by
  have h1 := Reads.new_ w 6 3 ((tree3 0 0).flatMap Nd.cells) 33 rfl
  have hs : (w.alloc (.cells ((tree3 0 0).flatMap Nd.cells).toArray 33)).heap.size = w.heap.size + 1 := World.size_alloc _ _
  have := Depth_any (some ⟨w.heap.size, 0, none⟩) 3 3 (tree3 0 0) _ (by rw [hs]; exact h1) (by decide)
  refine Calls.mono this fun e w' ⟨he, hb⟩ => ⟨?_, ?_⟩
  · rw [he, tree3_right, tree3_depth]; rfl
  · rw [hs] at hb
    exact ((Below.refl w.heap.size w).alloc (Nat.le_refl _) _).trans (hb.mono (by omega))

theorem pow_step {k x : Nat} (h : x = 2 ^ k) : x * 2 = 2 ^ (k + 1) := by rw [h, Nat.pow_succ]
theorem pow_le10 {k : Nat} (h : k ≤ 10) : 2 ^ k ≤ 1024 := Nat.le_trans (Nat.pow_le_pow_right (by omega) h) (by decide)

end Go.Proofs.YtliacpdbeghmlaaDoor
