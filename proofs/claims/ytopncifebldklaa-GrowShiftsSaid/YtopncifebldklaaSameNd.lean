/- orchsame.Nodes of two trees that are the same. Conditions: arguments read as nodes. -/
import Derived.Test.YtopncifebldklaaTreeOps
import Derived.Laws.StructEq
namespace Go.Proofs.Ytopncifebldklaa
set_option linter.unusedVariables false
set_option linter.unusedSimpArgs false
open Go.RowKit

def ndEq (a b : Nd) : Bool := a.f == b.f && a.c == b.c && a.l == b.l && a.r == b.r && a.less == b.less && a.v == b.v
theorem ndEq_t {a b : Nd} : ndEq a b = true ↔ a = b := by
  obtain ⟨a0, a1, a2, a3, a4, a5⟩ := a
  obtain ⟨b0, b1, b2, b3, b4, b5⟩ := b
  simp [ndEq, and_assoc]
set_option maxRecDepth 100000 in
theorem neq_node (a b : Nd) (W : World) : (binOp .neq 29 (.agg #[.int .i64 a.f, .int .i64 a.c, .int .i64 a.l, .int .i64 a.r, .bool a.less, .int .i64 a.v]) (.agg #[.int .i64 b.f, .int .i64 b.c, .int .i64 b.l, .int .i64 b.r, .bool b.less, .int .i64 b.v])).run Try.prog W = .ok (.bool (!(ndEq a b))) W := by
  have u := Try.underlying29
  have ui := Try.underlying3
  have ub := Try.underlying4
  rw [run_neq_struct, run_equalIn_agg _ _ _ _ _ (by unfold Program.fieldsOf; rw [u]) (by kernel_rfl)]
  simp only [Program.fieldsOf, u]
  simp [Op.eqFields, part, go_sem, ui, ub]
  unfold ndEq
  by_cases h0 : a.f = b.f <;> by_cases h1 : a.c = b.c <;> by_cases h2 : a.l = b.l <;> by_cases h3 : a.r = b.r <;> by_cases h4 : a.less = b.less <;> by_cases h5 : a.v = b.v <;> simp [h0, h1, h2, h3, h4, h5]
theorem same_node (f c l r : Int) (less : Bool) (v : Int) (W : World) : (binOp .neq 29 (.agg #[.int .i64 f, .int .i64 c, .int .i64 l, .int .i64 r, .bool less, .int .i64 v]) (.agg #[.int .i64 f, .int .i64 c, .int .i64 l, .int .i64 r, .bool less, .int .i64 v])).run Try.prog W = .ok (.bool false) W := by
  have := neq_node ⟨f, c, l, r, less, v⟩ ⟨f, c, l, r, less, v⟩ W
  rw [ndEq_t.2 rfl] at this
  exact this
end Go.Proofs.Ytopncifebldklaa
