/- cut.Merge and cut.Bin, with slices.Grow, Concat and Compact at ints. Conditions: as each lemma names. -/
import Derived.Test.YtopncifebldklaaInts
import Derived.Lib.AppendZerosOnto
import Derived.Lib.SliceRun
import Derived.Lib.Walk
import Derived.Lib.RowBridge
import Derived.Shelf.RegionOpenPlain
namespace Go.Proofs.Ytopncifebldklaa
set_option linter.unusedVariables false
set_option linter.unusedSimpArgs false
open Go.RowKit

/-- append of a list of ints onto a row of the call's own -/
theorem IOwn.app {w w' : World} {base : Nat} {v' : Value} {l m : List Int} (h : w'.ownsRow base 3 1 v' (l.length + m.length) (l.map (Value.int .i64) ++ m.map (Value.int .i64))) : IOwn w' base v' (l ++ m) := by
  unfold IOwn; rw [List.length_append, List.map_append]; exact h

theorem compactL_len (l : List Int) : (compactL l).length ≤ l.length := Lib.compact_length_le l
set_option maxRecDepth 100000 in
theorem compact_any (v : Value) (l : List Int) (base : Nat) (w : World) (h : IOwn w base v l) (hB : base ≤ w.heap.size) (hn : l.length ≤ 100000000) :
    Calls Try.prog 66 #[v] w fun e w' => ∃ v', e = .returned v' ∧ IOwn w' base v' (compactL l) ∧ Below base w w' := by
  rcases h.2 with ⟨rfl, h0⟩ | ⟨g, cap, cur, rfl, hg, hh, h1, h2, h3, h4⟩
  · have : l = [] := List.length_eq_zero_iff.1 h0
    subst this
    refine (Try.slices_Compact_int_empty none 0 w).mono ?_
    rintro e w' ⟨rfl, rfl⟩
    exact ⟨_, rfl, by rw [show compactL [] = [] from rfl]; exact IOwn.nil_ _ _, Below.refl _ _⟩
  · have hlt : g < w.heap.size := (Array.getElem?_eq_some_iff.1 hh).1
    refine (Try.slices_Compact_int g 0 cap l w (holds_of_blockI hh (by simpa using h4)) (by omega) h1).mono ?_
    rintro e w' ⟨rfl, q, rfl⟩
    have hcl := compactL_len l
    have hgr : w.grownBy _ (some g) := grownBy_sortedI (w := w) (n := q) (os := #[]) (Lib.compact l ++ List.replicate (l.length - (Lib.compact l).length) 0).toArray
    have ho := ownsRow_sortedI (w := w) (n := q) (os := #[]) (ss := l) (ts := Lib.compact l ++ List.replicate (l.length - (Lib.compact l).length) 0) (by unfold compactL at hcl; simp; omega) hg hh h1 h2 (by simpa using h3)
    rw [Go.Sort.grow_empty] at hgr ho
    refine ⟨_, rfl, ?_, (Below.refl base w).grown hgr hB (fun k e => by cases e; exact hg)⟩
    rcases ho.2 with ⟨e, _⟩ | ⟨g', cap', cur', e, hg', hh', h1', h2', h3', h4'⟩
    · cases e
    · injection e with e1 e2 e3
      injection e1 with e1
      injection e1 with e1
      subst e1
      subst e3
      refine ⟨by simp [compactL], .inr ⟨g, cap, cur', rfl, hg', hh', by unfold compactL at hcl; unfold compactL; omega, h2', h3', ?_⟩⟩
      have := congrArg (List.take (compactL l).length) h4'
      rw [List.take_take, List.map_append] at this
      rw [show min (compactL l).length (l.length * 1) = (compactL l).length * 1 by omega] at this
      rw [this, List.take_append_of_le_length (by simp [compactL])]
      exact List.take_of_length_le (by simp [compactL])
end Go.Proofs.Ytopncifebldklaa
