/- The references of groves: orchref1.Stand, Each, Together, Between. Conditions: arguments read as groves and rows. -/
import Derived.Test.YtliacpdbeghmlaaDoorRefGrove
import Derived.Test.YtliacpdbeghmlaaDoorRefFix
namespace Go.Proofs.YtliacpdbeghmlaaDoor
set_option linter.unusedVariables false
set_option linter.unusedSimpArgs false
open Go.RowKit

set_option maxRecDepth 100000 in
set_option maxHeartbeats 1000000 in
theorem rstand_any (g : Gv) (C : Option Addr) (k q : Nat) (r : List Int) (w : World) (hg : GReads w w.heap.size g) (hr : IReads w w.heap.size C k r) (hk : k ≤ maxLen) :
    Calls Tryd.prog 18 #[g.val, .slice C k q] w fun e w' => e = .returned (.int .i64 (standE g r)) ∧ Below w.heap.size w w' := by
  obtain ⟨W, hW, bx, hWs, hb0⟩ := gbox w g.f g.way g.Aw g.nw g.cw g.At g.nt g.ct
  have hck := hide (rgrove_any g W ((hg.below hb0).more (by omega)))
  have hrk := hr.len
  obtain ⟨c0, c1, c2, c3⟩ := bx.cells4
  unfold maxLen at hk
  have HK := hide hrk
  have HS : Hid (standE g r = if g.e = 0 then (if rowE r = 0 then (if (r.length : Int) = g.f then 0 else 3) else rowE r) else g.e) := hide rfl
  generalize standE g r = SE at *
  clear hg hrk
  obtain ⟨E, hE⟩ : ∃ E, E = g.e := ⟨_, rfl⟩
  rw [← hE] at hck HS
  clear hE
  obtain ⟨f, way, Aw, nw, cw, ws, At, nt, ct, ts⟩ := g
  simp only [Gv.val] at hck ⊢
  dsimp only at hW bx c0 c1 c2 c3 HS
  go_enter Tryd.func18, Tryd.ntmps18
  go_wp2_with fail
  rw [← hW]
  clear hW
  refine (unhide hck).mono ?_
  rintro e w1 ⟨rfl, hb1⟩
  have z1 := hb1.size
  have d0 : w1.cell? ⟨w.heap.size, 0, none⟩ = some (.int .i64 f) := (hb1.cell (p := ⟨w.heap.size, 0, none⟩) (by show w.heap.size < _; omega)).trans c0
  have hB1 := hb0.trans (hb1.mono (by omega))
  have hrc := hide (rrow_any C k q r w1 _ (hr.below hB1) (by unfold maxLen; omega))
  clear hck c0 c1 c2 c3 bx
  by_cases h1 : E = 0
  · have e1 : (E == 0) = true := by simp [h1]
    have HS1 : Hid (SE = (if rowE r = 0 then (if (r.length : Int) = f then 0 else 3) else rowE r)) := hide (by rw [unhide HS, if_pos h1])
    clear h1
    go_wp2_with fail
    refine (unhide hrc).mono ?_
    rintro e w2 ⟨rfl, rfl⟩
    by_cases h2 : rowE r = 0
    · have e2 : (rowE r == 0) = true := by simp [h2]
      have HS2 : Hid (SE = if (r.length : Int) = f then 0 else 3) := hide (by rw [unhide HS1, if_pos h2])
      have H2 := hide h2
      clear h2
      by_cases h3 : (k : Int) = f
      · have HS3 : Hid (SE = 0) := hide (by rw [unhide HS2, unhide HK, if_pos h3])
        have e3 : ((k : Int) != f) = false := by simp [h3]
        clear h3
        go_wp2_with fail
        go_ret
        exact ⟨by rw [unhide HS3]; exact ret_int (unhide H2), hB1⟩
      · have HS3 : Hid (SE = 3) := hide (by rw [unhide HS2, unhide HK, if_neg h3])
        have e3 : ((k : Int) != f) = true := by simp [h3]
        clear h3
        go_wp2_with fail
        go_ret
        exact ⟨by rw [unhide HS3]; rfl, hB1⟩
    · have e2 : (rowE r == 0) = false := by simp [h2]
      have HS2 : Hid (SE = rowE r) := hide (by rw [unhide HS1, if_neg h2])
      clear h2
      go_wp2_with fail
      go_ret
      exact ⟨by rw [unhide HS2]; rfl, hB1⟩
  · have e1 : (E == 0) = false := by simp [h1]
    have HS1 : Hid (SE = E) := hide (by rw [unhide HS, if_neg h1])
    clear h1
    go_wp2_with fail
    go_ret
    exact ⟨by rw [unhide HS1]; rfl, hB1⟩

set_option maxRecDepth 100000 in
set_option maxHeartbeats 2000000 in
theorem reach_any (g : Gv) (C : Option Addr) (k q : Nat) (r : List Int) (w : World) (hg : GReads w w.heap.size g) (hr : IReads w w.heap.size C k r) (hk : k ≤ maxLen) (h0 : standE g r = 0) :
    Calls Tryd.prog 19 #[g.val, .slice C k q] w (IPost (eachV g r) w) := by
  obtain ⟨W, hW, bx, hWs, hb0⟩ := gbox w g.f g.way g.Aw g.nw g.cw g.At g.nt g.ct
  obtain ⟨c0, c1, c2, c3⟩ := bx.cells4
  obtain ⟨hG, hrow, hlen⟩ := standE_0 h0
  have hrl := hr.len
  have h8 : k ≤ 8 := by have := hG.f8; omega
  have hnt : g.ts.length = g.nt := hg.ts.len
  have hn12 : g.nt ≤ 12 := by have := hG.most; omega
  have HTR : Hid (∀ t ∈ g.ts, Right t.l (k : Int)) := hide (fun t ht => by
    have := right_of (hG.trees t ht)
    rwa [← hlen, hrl] at this)
  have HE : Hid (eachV g r = g.ts.map fun t => valAt t.l (leafOf t.l r)) := hide rfl
  have htr := hg.ts
  have HNT := hide hnt
  clear hG hrow hlen hrl h0 hg hnt
  obtain ⟨f, way, Aw, nw, cw, ws, At, nt, ct, ts⟩ := g
  simp only [Gv.val]
  dsimp only at hW bx c0 c1 c2 c3 htr hn12 HTR HE HNT
  go_enter Tryd.func19, Tryd.ntmps19
  go_wp2_with fail
  rw [← hW]
  clear hW c0 c1 c2
  go_loopw [5, 6] (fun v i wr => ∃ j : Nat, j ≤ nt ∧ i = .int .i64 j ∧ wr.ownsRow (w.heap.size + 1) 3 1 v j (((ts.map fun t => valAt t.l (leafOf t.l r)).take j).map (Value.int .i64)) ∧ Below (w.heap.size + 1) W wr) (fun _ i _ => nt - (Lib.intOf i).toNat)
  case atStart => exact ⟨0, Nat.zero_le _, rfl, World.ownsRow_nil _ _ _ _, Below.refl _ _⟩
  case round =>
    obtain ⟨j, hj, rfl, hown, hbel⟩ := hrel
    have hsz := hbel.size
    have hbw := hb0.trans (hbel.mono (by omega))
    have cc3 := (hbel.cell (p := ⟨w.heap.size, 3, none⟩) (by show w.heap.size < _; omega)).trans c3
    by_cases hlt : j < nt
    · obtain ⟨b, o, t, rfl, _, hx, hcx, hok⟩ := (htr.below hbw).get hlt
      have hRt := unhide HTR t (List.mem_of_getElem? hx)
      have hln := hok.reads.len
      obtain ⟨n, hn, _, hn1, hn2⟩ := leaf_in (r := r) hRt
      have hp := hRt.pos
      have hmost := hRt.most
      have hlf : leafOf t.l r < t.n := by rw [← hln]; exact (List.getElem?_eq_some_iff.1 hn).1
      have HX : Hid ((ts.map fun t => valAt t.l (leafOf t.l r)).take (j + 1) = (ts.map fun t => valAt t.l (leafOf t.l r)).take j ++ [n.v]) := hide (take_next (by rw [List.getElem?_map, hx]; simp [valAt, hn]))
      have hzw := hbw.size
      have hwk := rleaf_any t.A C t.n t.c k q t.l r wr (hok.reads.more hzw) ((hr.below hbw).more hzw) (by omega) (by omega) h8 hRt.behind hRt.asks
      obtain ⟨i, hi⟩ : ∃ i, i = leafOf t.l r := ⟨_, rfl⟩
      unfold RLPost at hwk
      rw [← hi] at hlf hn hwk
      have hrr := hok.reads
      have HWK := hide hwk
      obtain ⟨tA, tn, tc, tl⟩ := t
      dsimp only at hcx hln hlf hn HWK hrr HX hi
      clear hi hx hok hRt hp hmost hln hwk
      go_wp2_with fail
      refine (unhide HWK).mono ?_
      rintro e w2 ⟨v2, rfl, _, hb2⟩
      clear HWK
      obtain ⟨b5, o5, n', rfl, _, hn', _, _, _, _, _, g5⟩ := (hrr.below (hb2.mono hzw)).get hlf
      rw [hn] at hn'
      injection hn' with hn'
      subst hn'
      have hown2 := own_below hown hb2
      have hs2 := Nat.le_trans hsz hb2.size
      have c3' := (hb2.cell (p := ⟨w.heap.size, 3, none⟩) (by show w.heap.size < _; omega)).trans cc3
      have cx' := (hb2.cell (p := ⟨b, o + j, none⟩) (by dsimp only; omega)).trans hcx
      obtain ⟨x, hxe⟩ : ∃ x, x = n.v := ⟨_, rfl⟩
      rw [← hxe] at g5 hn1 hn2 HX
      have hbel2 := hbel.trans (hb2.mono (by omega))
      clear hn hrr hown hxe cc3 hcx
      go_wp2_with (at_builtin; refine app_one elem_int (.tmp 26) (.tmp 36) [.int .i64 x] rfl rfl rfl hown2 rfl rfl rfl (ints_oneCell .i64 [x]) (by omega) (by omega) ?_; intro v' w3 hown3 hb3 _ _)
      go_wp2_with fail
      go_roundw
      case rel => exact ⟨j + 1, by omega, by go_num, by rw [unhide HX, List.map_append]; exact hown3, hbel2.trans hb3⟩
      case measure => simp [Lib.intOf]; omega
    · obtain rfl : j = nt := by omega
      rw [List.take_of_length_le (by rw [List.length_map, unhide HNT]; exact Nat.le_refl _), ← unhide HE] at hown
      have HL : Hid (j = (eachV ⟨f, way, Aw, nw, cw, ws, At, j, ct, ts⟩ r).length) := hide (by rw [unhide HE, List.length_map, unhide HNT])
      go_wp2_with fail
      go_ret
      refine ⟨_, rfl, ?_, hbw⟩
      unfold IOwn
      rw [← unhide HL]
      exact own_low hown (by omega)
end Go.Proofs.YtliacpdbeghmlaaDoor
