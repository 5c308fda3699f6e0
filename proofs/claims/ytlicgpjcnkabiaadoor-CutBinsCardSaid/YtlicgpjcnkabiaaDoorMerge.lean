/- cut.Merge and cut.Bin, with slices.Grow, Concat and Compact at ints. Conditions: as each lemma names. -/
import Derived.Test.YtlicgpjcnkabiaaDoorInts
import Derived.Lib.AppendZerosOnto
import Derived.Lib.SliceRun
import Derived.Lib.Walk
import Derived.Lib.RowBridge
import Derived.Shelf.RegionOpenPlain
namespace Go.Proofs.YtlicgpjcnkabiaaDoor
set_option linter.unusedVariables false
set_option linter.unusedSimpArgs false
open Go.RowKit

set_option maxHeartbeats 1000000 in
theorem growI_any (n : Nat) (w : World) (hn : n ≤ 100000) : Calls Tryd.prog 92 #[.slice none 0 0, .int .i64 n] w (IPost [] w) := by
  rcases Nat.eq_zero_or_pos n with h0 | h0
  · subst h0
    go_enter Tryd.func92, Tryd.ntmps92
    go_wp2_with fail
    go_ret
    exact ⟨_, rfl, IOwn.nil_ _ _, Below.refl _ _⟩
  · obtain ⟨i0, hi, hz, hs, hb⟩ := info_parts elem_int.info
    have hG := grownCap_ge w n 0 3
    have hG2 := grownCap_le_maxLen w n 0 3 (by unfold maxLen; omega)
    have hrz : ∀ ty, (Builtin.append_ #[22, 3] ty #[.slice none 0 0, .int .i64 n]).run Tryd.prog w =
        .ok (.slice (some ⟨w.heap.size, 0, none⟩) n (grownCap w n 0 3)) (w.drew.alloc (.cells (#[] ++ Builtin.zeroCells (Value.int .i64 0).cells n ++ Builtin.zeroCells (Value.int .i64 0).cells (grownCap w n 0 3 - n)) 3)) := fun ty => by
      have h := Lib.run_append_grow_zeros (P := Tryd.prog) w 22 3 ty 3 i0 (.int .i64 0) .i64 .i64 Tryd.underlying22 Tryd.underlying3 hi hz none 0 0 [] (run_firstCells_none w.drew i0.size 0 0 0) n h0 (by omega) (by omega) (by omega) (by rw [hb]; omega)
        (by rw [hb]; exact growslice_fits (by omega) (by omega))
      simpa using h
    have hsz : (#[] ++ Builtin.zeroCells (Value.int .i64 0).cells n ++ Builtin.zeroCells (Value.int .i64 0).cells (grownCap w n 0 3 - n)).size = grownCap w n 0 3 * 1 := by
      simp [Builtin.zeroCells, Value.cells]; omega
    generalize (#[] ++ Builtin.zeroCells (Value.int .i64 0).cells n ++ Builtin.zeroCells (Value.int .i64 0).cells (grownCap w n 0 3 - n)) = cur at *
    generalize grownCap w n 0 3 = G at *
    have HZ := hide hsz
    unfold maxLen at hG2
    clear hsz hi hz hs hb
    go_enter Tryd.func92, Tryd.ntmps92
    go_wp2_with (at_builtin; refine Lib.wpList_append_run _ rfl _ _ _ _ rfl _ _ rfl rfl _ _ (hrz _) ?_)
    go_ret
    refine ⟨_, rfl, ⟨by simp, .inr ⟨w.heap.size, G, cur, rfl, Nat.le_refl _, ?_, Nat.zero_le _, hG2, unhide HZ, by simp⟩⟩, ((Below.refl _ _).drew).alloc (Nat.le_refl _) _⟩
    exact heap_alloc_new w.drew _

/-- append of a list of ints onto a row of the call's own -/
theorem IOwn.app {w w' : World} {base : Nat} {v' : Value} {l m : List Int} (h : w'.ownsRow base 3 1 v' (l.length + m.length) (l.map (Value.int .i64) ++ m.map (Value.int .i64))) : IOwn w' base v' (l ++ m) := by
  unfold IOwn; rw [List.length_append, List.map_append]; exact h

set_option maxRecDepth 100000 in
set_option maxHeartbeats 2000000 in
theorem concat_any (A C : Option Addr) (n m c d : Nat) (a b : List Int) (w : World) (B g : Nat) (hra : IReads w w.heap.size A n a) (hrb : IReads w w.heap.size C m b) (hn : n ≤ 1000) (hm : m ≤ 1000)
    (hg : g < w.heap.size) (h0 : w.cell? ⟨g, 0, none⟩ = some (.slice A n c)) (h1 : w.cell? ⟨g, 1, none⟩ = some (.slice C m d)) :
    Calls Tryd.prog 62 #[.slice (some ⟨g, 0, none⟩) 2 2] w (IPost (a ++ b) w) := by
  have HA := hide hra.len
  have HB := hide hrb.len
  go_enter Tryd.func62, Tryd.ntmps62
  go_wp2_with fail
  refine wp_loop_rounds 3 ?_
  rw [rounds_succ]
  go_wp2_with fail
  rw [rounds_succ]
  go_wp2_with fail
  rw [rounds_succ]
  go_wp2_with fail
  have hgr := growI_any (n + m) w (by omega)
  rw [show ((n + m : Nat) : Int) = (n : Int) + (m : Int) by omega] at hgr
  refine hgr.mono ?_
  clear hgr
  rintro e w1 ⟨v, rfl, hown, hb1⟩
  have z1 := hb1.size
  have k0 := (hb1.cell (p := ⟨g, 0, none⟩) hg).trans h0
  have k1 := (hb1.cell (p := ⟨g, 1, none⟩) hg).trans h1
  have hra1 := (hra.below hb1)
  go_wp2_with fail
  refine wp_loop_rounds 3 ?_
  rw [rounds_succ]
  go_wp2_with (at_builtin; refine app_many elem_int (.tmp 31) (.tmp 32) rfl rfl rfl hown rfl hra1 (ints_one a) (by simp; omega) z1 ?_; intro v2 w2 hown2 hb2 hgr2)
  have hw2 := hb1.trans hb2
  have hown3 : IOwn w2 w.heap.size v2 a := by unfold IOwn; rw [unhide HA]; simpa using hown2
  have hrb2 := hrb.below hw2
  have k1' := (hw2.cell (p := ⟨g, 1, none⟩) hg).trans h1
  have k0' := (hw2.cell (p := ⟨g, 0, none⟩) hg).trans h0
  clear hown2 hown k0 k1
  go_wp2_with fail
  rw [rounds_succ]
  go_wp2_with (at_builtin; refine app_many elem_int (.tmp 31) (.tmp 32) rfl rfl rfl hown3 rfl hrb2 (ints_one b) (by rw [unhide HA]; omega) hw2.size ?_; intro v3 w3 hown4 hb3 hgr3)
  have hown5 : IOwn w3 w.heap.size v3 (a ++ b) := by
    refine IOwn.app (w := w2) ?_
    rw [unhide HB]; exact hown4
  have hw3 := hw2.trans hb3
  have k2' := (hw3.cell (p := ⟨g, 1, none⟩) hg).trans h1
  clear hown4
  go_wp2_with fail
  rw [rounds_succ]
  go_wp2_with fail
  go_ret
  exact ⟨_, rfl, hown5, hw3⟩

theorem compactL_len (l : List Int) : (compactL l).length ≤ l.length := Lib.compact_length_le l
set_option maxRecDepth 100000 in
theorem compact_any (v : Value) (l : List Int) (base : Nat) (w : World) (h : IOwn w base v l) (hB : base ≤ w.heap.size) (hn : l.length ≤ 100000000) :
    Calls Tryd.prog 64 #[v] w fun e w' => ∃ v', e = .returned v' ∧ IOwn w' base v' (compactL l) ∧ Below base w w' := by
  rcases h.2 with ⟨rfl, h0⟩ | ⟨g, cap, cur, rfl, hg, hh, h1, h2, h3, h4⟩
  · have : l = [] := List.length_eq_zero_iff.1 h0
    subst this
    refine (Tryd.slices_Compact_int_empty none 0 w).mono ?_
    rintro e w' ⟨rfl, rfl⟩
    exact ⟨_, rfl, by rw [show compactL [] = [] from rfl]; exact IOwn.nil_ _ _, Below.refl _ _⟩
  · have hlt : g < w.heap.size := (Array.getElem?_eq_some_iff.1 hh).1
    refine (Tryd.slices_Compact_int g 0 cap l w (holds_of_blockI hh (by simpa using h4)) (by omega) h1).mono ?_
    rintro e w' ⟨rfl, q, rfl⟩
    have hcl := compactL_len l
    have hgr : w.grownBy _ (some g) := grownBy_sortedI (w := w) (n := q) (os := #[]) (Lib.compact l ++ List.replicate (l.length - (Lib.compact l).length) 0).toArray
    have ho := ownsRow_sortedI (w := w) (n := q) (os := #[]) (ss := l) (ts := Lib.compact l ++ List.replicate (l.length - (Lib.compact l).length) 0) (by unfold compactL at hcl; simp; omega) hg hh h1 h2 (by simpa using h3)
    rw [Go.Sort.grow_empty] at hgr ho
    refine ⟨_, rfl, ?_, (Below.refl base w).grown hgr hB (fun k e => by cases e; exact hg)⟩
    rcases ho.2 with ⟨e, _⟩ | ⟨g', cap', cur', e, hg', hh', h1', h2', h3', h4'⟩
    · cases e
    · injection e with e1 e2 e3
      injection e1 with e1
      injection e1 with e1
      subst e1
      subst e3
      refine ⟨by simp [compactL], .inr ⟨g, cap, cur', rfl, hg', hh', by unfold compactL at hcl; unfold compactL; omega, h2', h3', ?_⟩⟩
      have := congrArg (List.take (compactL l).length) h4'
      rw [List.take_take, List.map_append] at this
      rw [show min (compactL l).length (l.length * 1) = (compactL l).length * 1 by omega] at this
      rw [this, List.take_append_of_le_length (by simp [compactL])]
      exact List.take_of_length_le (by simp [compactL])
end Go.Proofs.YtlicgpjcnkabiaaDoor
