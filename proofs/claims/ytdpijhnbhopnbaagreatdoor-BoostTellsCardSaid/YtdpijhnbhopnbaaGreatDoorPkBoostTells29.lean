/- Part 29 of what LawBoostTells needs: RefGrove, RefGrove2, RefGrove3, SameNd, SameN. Conditions: as each lemma names. -/
import Derived.Test.YtdpijhnbhopnbaaGreatDoorPkBoostTells28
import Derived.Test.YtdpijhnbhopnbaaGreatDoorPkBoostTells21
import Derived.Test.YtdpijhnbhopnbaaGreatDoorPkBoostTells17
import Derived.Lib.Agree
import Derived.Test.YtdpijhnbhopnbaaGreatDoorPkBoostTells20
import Derived.Test.YtdpijhnbhopnbaaGreatDoorPkBoostTells25
import Derived.Test.YtdpijhnbhopnbaaGreatDoorPkBoostTells24
import Derived.IntWalk
import Derived.Test.YtdpijhnbhopnbaaGreatDoorPkBoostTells03
import Derived.Laws.StructEq
/- The references of groves: orchref1.Grove, Stand, Each. Conditions: arguments read as groves and rows. -/
namespace Go.Proofs.YtdpijhnbhopnbaaGreatDoor
set_option linter.unusedVariables false
set_option linter.unusedSimpArgs false
open Go.RowKit

set_option maxRecDepth 100000 in
set_option maxHeartbeats 2000000 in
theorem rgrove_any (g : Gv) (w : World) (hr : GReads w w.heap.size g) :
    Calls Tryz.prog 9 #[g.val] w fun e w' => e = .returned (.int .i64 g.e) ∧ Below w.heap.size w w' := by
  obtain ⟨f, way, Aw, nw, cw, ws, At, nt, ct, ts⟩ := g
  have hlw := hr.ws.len
  have hlt := hr.ts.len
  have hnw := hr.nw
  have hnt := hr.nt
  have hwr := hr.ws
  have htr := hr.ts
  clear hr
  dsimp only at hlw hlt hnw hnt hwr htr
  unfold maxLen at hnw hnt
  simp only [Gv.val]
  have hlt' : (Gv.trees ⟨f, way, Aw, nw, cw, ws, At, nt, ct, ts⟩).length = nt := by rw [Gv.trees_len]; exact hlt
  obtain ⟨T, hT⟩ : ∃ T, T = Gv.trees ⟨f, way, Aw, nw, cw, ws, At, nt, ct, ts⟩ := ⟨_, rfl⟩
  have hE : (Gv.e ⟨f, way, Aw, nw, cw, ws, At, nt, ct, ts⟩) = groveE f way ws T := by rw [hT]; rfl
  rw [hE]
  rw [← hT] at hlt'
  have HT := hide hT
  have HLT := hide hlt'
  have HLW := hide hlw
  have HL := hide hlt
  clear hE hT hlt' hlw hlt
  have hb0 : Below w.heap.size w (w.alloc (.cells #[.int .i64 f, .int .i64 way, .slice Aw nw cw, .slice At nt ct] 26)) := (Below.refl _ _).alloc (Nat.le_refl _) _
  by_cases h1 : f < 0
  · have HE : Hid (groveE f way ws T = 1) := hide (by unfold groveE; rw [if_pos h1])
    have d1 : decide (f < 0) = true := decide_eq_true h1
    go_enter Tryz.func9, Tryz.ntmps9
    go_wp2_with fail
    go_ret
    exact ⟨by rw [unhide HE]; rfl, hb0⟩
  have d1 : decide (f < 0) = false := decide_eq_false h1
  by_cases h2 : 8 < f
  · have HE : Hid (groveE f way ws T = 1) := hide (by unfold groveE; rw [if_neg h1, if_pos h2])
    have d2 : decide (8 < f) = true := decide_eq_true h2
    go_enter Tryz.func9, Tryz.ntmps9
    go_wp2_with fail
    go_ret
    exact ⟨by rw [unhide HE]; rfl, hb0⟩
  have d2 : decide (8 < f) = false := decide_eq_false h2
  by_cases h3 : way < 1
  · have HE : Hid (groveE f way ws T = 1) := hide (by unfold groveE; rw [if_neg h1, if_neg h2, if_pos h3])
    have d3 : decide (way < 1) = true := decide_eq_true h3
    go_enter Tryz.func9, Tryz.ntmps9
    go_wp2_with fail
    go_ret
    exact ⟨by rw [unhide HE]; rfl, hb0⟩
  have d3 : decide (way < 1) = false := decide_eq_false h3
  by_cases h4 : 3 < way
  · have HE : Hid (groveE f way ws T = 1) := hide (by unfold groveE; rw [if_neg h1, if_neg h2, if_neg h3, if_pos h4])
    have d4 : decide (3 < way) = true := decide_eq_true h4
    go_enter Tryz.func9, Tryz.ntmps9
    go_wp2_with fail
    go_ret
    exact ⟨by rw [unhide HE]; rfl, hb0⟩
  have d4 : decide (3 < way) = false := decide_eq_false h4
  by_cases h5 : nt = 0
  · have HE : Hid (groveE f way ws T = 5) := hide (by unfold groveE; rw [if_neg h1, if_neg h2, if_neg h3, if_neg h4, unhide HLT, if_pos h5])
    have d5 : ((nt : Int) == 0) = true := by simp [h5]
    clear h5
    go_enter Tryz.func9, Tryz.ntmps9
    go_wp2_with fail
    go_ret
    exact ⟨by rw [unhide HE]; rfl, hb0⟩
  have d5 : ((nt : Int) == 0) = false := by simp; omega
  by_cases h6 : 12 < nt
  · have HE : Hid (groveE f way ws T = 4) := hide (by unfold groveE; rw [if_neg h1, if_neg h2, if_neg h3, if_neg h4, unhide HLT, if_neg h5, if_pos h6])
    have d6 : decide (12 < nt) = true := decide_eq_true h6
    go_enter Tryz.func9, Tryz.ntmps9
    go_wp2_with fail
    go_ret
    exact ⟨by rw [unhide HE]; rfl, hb0⟩
  have d6 : decide (12 < nt) = false := decide_eq_false h6
  by_cases h7 : nw = nt
  case neg =>
    have HE : Hid (groveE f way ws T = 3) := hide (by unfold groveE; rw [if_neg h1, if_neg h2, if_neg h3, if_neg h4, unhide HLT, if_neg h5, if_neg h6, if_neg (by rw [unhide HLW]; exact h7)])
    have d7 : ((nw : Int) != (nt : Int)) = true := by simp; omega
    go_enter Tryz.func9, Tryz.ntmps9
    go_wp2_with fail
    go_ret
    exact ⟨by rw [unhide HE]; rfl, hb0⟩
  subst h7
  have HE : Hid (groveE f way ws T = if weightsE ws = 0 then treesE f T else weightsE ws) := hide (by unfold groveE; rw [if_neg h1, if_neg h2, if_neg h3, if_neg h4, unhide HLT, if_neg h5, if_neg h6, if_pos (unhide HLW)])
  have hn12 : nw ≤ 12 := by omega
  clear h6 h5
  go_enter Tryz.func9, Tryz.ntmps9
  go_wp2_with fail
  obtain ⟨W, hW⟩ : ∃ W, W = w.alloc (.cells #[.int .i64 f, .int .i64 way, .slice Aw nw cw, .slice At nw ct] 26) := ⟨_, rfl⟩
  rw [← hW] at hb0 ⊢
  have bx : Blk W w.heap.size 26 #[.int .i64 f, .int .i64 way, .slice Aw nw cw, .slice At nw ct] := by rw [hW]; exact Blk.new _ _ _
  have hWs : W.heap.size = w.heap.size + 1 := by rw [hW]; simp
  clear hW
  obtain ⟨c0, c1, c2, c3⟩ : W.cell? ⟨w.heap.size, 0, none⟩ = some (.int .i64 f) ∧ W.cell? ⟨w.heap.size, 1, none⟩ = some (.int .i64 way) ∧ W.cell? ⟨w.heap.size, 2, none⟩ = some (.slice Aw nw cw) ∧ W.cell? ⟨w.heap.size, 3, none⟩ = some (.slice At nw ct) := ⟨bx.cell 0, bx.cell 1, bx.cell 2, bx.cell 3⟩
  have hwr1 := hwr.below hb0
  have htr1 := htr.below hb0
  clear hwr d5 d6 htr1
  go_loop [3] (fun i => ∃ k : Nat, k ≤ nw ∧ i = .int .i64 k ∧ Hid (∀ x ∈ ws.take k, 1 ≤ x ∧ x ≤ 1000)) (fun i => nw - (Lib.intOf i).toNat)
  case atStart => exact ⟨0, Nat.zero_le _, rfl, hide (by simp)⟩
  case round =>
    obtain ⟨k, hk, rfl, HG⟩ := hrel
    by_cases hlt : k < nw
    · obtain ⟨b, o, x, rfl, _, hx, hcx⟩ := hwr1.get hlt
      have HX := hide hx
      clear hx
      by_cases hx1 : x < 1
      · have HZ : Hid (groveE f way ws T = 1) := hide (by rw [unhide HE, weightsE_bad (unhide HX) (.inl hx1)]; rfl)
        have e1 : decide (x < 1) = true := decide_eq_true hx1
        go_wp2_with fail
        go_ret
        exact ⟨by rw [unhide HZ]; rfl, hb0⟩
      · have e1 : decide (x < 1) = false := decide_eq_false hx1
        by_cases hx2 : 1000 < x
        · have HZ : Hid (groveE f way ws T = 1) := hide (by rw [unhide HE, weightsE_bad (unhide HX) (.inr hx2)]; rfl)
          have e2 : decide (1000 < x) = true := decide_eq_true hx2
          go_wp2_with fail
          go_ret
          exact ⟨by rw [unhide HZ]; rfl, hb0⟩
        · have e2 : decide (1000 < x) = false := decide_eq_false hx2
          go_wp2_with fail
          go_round
          case rel => exact ⟨k + 1, by omega, by go_num, hide (by
            rw [take_next (unhide HX)]
            intro y hy
            rcases List.mem_append.1 hy with hy | hy
            · exact (unhide HG) y hy
            · simp at hy; subst hy; omega)⟩
          case measure => simp [Lib.intOf]; omega
    · obtain rfl : k = nw := by omega
      have hG := unhide HG
      rw [List.take_of_length_le (by rw [unhide HLW]; exact Nat.le_refl _)] at hG
      have HZ : Hid (groveE f way ws T = treesE f (T.drop 0)) := hide (by rw [unhide HE, if_pos (weightsE_of hG), List.drop_zero])
      clear hG
      go_wp2_with fail
      go_loopw [4] (fun i wr => ∃ j : Nat, j ≤ k ∧ i = .int .i64 j ∧ Hid (groveE f way ws T = treesE f (T.drop j)) ∧ Below w.heap.size w wr ∧ wr.cell? ⟨w.heap.size, 0, none⟩ = some (.int .i64 f) ∧ wr.cell? ⟨w.heap.size, 3, none⟩ = some (.slice At k ct) ∧ w.heap.size + 1 ≤ wr.heap.size) (fun i _ => k - (Lib.intOf i).toNat)
      case atStart => exact ⟨0, Nat.zero_le _, rfl, HZ, hb0, c0, c3, by omega⟩
      case round =>
        obtain ⟨j, hj, rfl, HY, hbel, cc0, cc3, hws⟩ := hrel
        by_cases hlj : j < k
        · obtain ⟨b, o, r, rfl, _, hx, hcx, hok⟩ := (htr.below hbel).get hlj
          have hTk : T[j]? = some r.l := by rw [unhide HT]; exact Gv.trees_at hx
          have HD := hide (treesE_drop (fe := f) hTk)
          have hz := hbel.size
          obtain ⟨rA, rn, rc, rl⟩ := r
          dsimp only at hcx HD
          have hck := fun (W : World) (hW : Below wr.heap.size wr W) => rtree_any rA rn rc f rl W ((hok.reads.below (hW.mono hz)).more (Nat.le_trans hz hW.size)) hok.len
          have HCK := hide hck
          clear hck hx hTk hok c0 c1 c2 c3
          by_cases ht0 : treeE rl f = 0
          · have HN : Hid (groveE f way ws T = treesE f (T.drop (j + 1))) := hide (by rw [unhide HY, unhide HD, if_pos ht0])
            have HT0 : Hid ((treeC rl f).2 = 0) := hide ht0
            clear ht0
            go_wp2_with fail
            go_region_held3 (fun w' => w'.cell? ⟨w.heap.size, 0, none⟩ = some (.int .i64 f) ∧ w'.cell? ⟨w.heap.size, 3, none⟩ = some (.slice (some ⟨b, o, none⟩) k ct) ∧ w'.cell? ⟨b, o + j, none⟩ = some (.slice rA rn rc))
              (first | go_keep | (go_split_ands <;> assumption))
              ((go_at_call 26; refine (unhide HCK _ ((Below.refl _ _).drew)).mono ?_; rintro e w2 ⟨rfl, hb2⟩; have k0 := (hb2.cell (p := ⟨w.heap.size, 0, none⟩) (by show w.heap.size < wr.heap.size; omega)).trans cc0; have k3 := (hb2.cell (p := ⟨w.heap.size, 3, none⟩) (by show w.heap.size < wr.heap.size; omega)).trans cc3; have kj := (hb2.cell (p := ⟨b, o + j, none⟩) (by show b < wr.heap.size; omega)).trans hcx))
            rw [unhide HT0]
            have hb3 : Below wr.heap.size wr w2 := ((Below.refl _ _).drew).trans hb2
            have hc2 : w2.cell? ⟨w.heap.size, 0, none⟩ = some (.int .i64 f) := (hb3.cell (p := ⟨w.heap.size, 0, none⟩) (by show w.heap.size < _; omega)).trans cc0
            have hc3 : w2.cell? ⟨w.heap.size, 3, none⟩ = some (.slice (some ⟨b, o, none⟩) k ct) := (hb3.cell (p := ⟨w.heap.size, 3, none⟩) (by show w.heap.size < _; omega)).trans cc3
            have hz2 := hb3.size
            clear HCK
            go_wp2_with fail
            go_roundw
            case rel => exact ⟨j + 1, by omega, by go_num, HN, hbel.trans (hb3.mono hz), hc2, hc3, by omega⟩
            case measure => simp [Lib.intOf]; omega
          · have HN : Hid (groveE f way ws T = treeE rl f) := hide (by rw [unhide HY, unhide HD, if_neg ht0])
            obtain ⟨E, hE⟩ : ∃ E, E = (treeC rl f).2 := ⟨_, rfl⟩
            have HEE : Hid (treeE rl f = E) := hide (by rw [hE]; rfl)
            have hE0 : (E != 0) = true := by rw [bne_iff_ne, hE]; exact ht0
            unfold RTPost at HCK
            rw [← hE] at HCK
            clear ht0 hE
            go_wp2_with fail
            go_region_held3 (fun w' => w'.cell? ⟨w.heap.size, 0, none⟩ = some (.int .i64 f) ∧ w'.cell? ⟨w.heap.size, 3, none⟩ = some (.slice (some ⟨b, o, none⟩) k ct) ∧ w'.cell? ⟨b, o + j, none⟩ = some (.slice rA rn rc))
              (first | go_keep | (go_split_ands <;> assumption))
              ((go_at_call 26; refine (unhide HCK _ ((Below.refl _ _).drew)).mono ?_; rintro e w2 ⟨rfl, hb2⟩; have k0 := (hb2.cell (p := ⟨w.heap.size, 0, none⟩) (by show w.heap.size < wr.heap.size; omega)).trans cc0; have k3 := (hb2.cell (p := ⟨w.heap.size, 3, none⟩) (by show w.heap.size < wr.heap.size; omega)).trans cc3; have kj := (hb2.cell (p := ⟨b, o + j, none⟩) (by show b < wr.heap.size; omega)).trans hcx))
            have hb3 : Below wr.heap.size wr w2 := ((Below.refl _ _).drew).trans hb2
            clear HCK
            go_wp2_with fail
            go_ret
            exact ⟨by rw [unhide HN, unhide HEE]; rfl, hbel.trans (hb3.mono hz)⟩
        · obtain rfl : j = k := by omega
          have HZ2 : Hid (groveE f way ws T = 0) := hide (by rw [unhide HY, List.drop_eq_nil_of_le (by rw [unhide HLT]; exact Nat.le_refl _)]; rfl)
          go_wp2_with fail
          go_ret
          exact ⟨by rw [unhide HZ2]; rfl, hbel⟩
end Go.Proofs.YtdpijhnbhopnbaaGreatDoor
/- The references of groves: orchref1.Stand, Each, Together, Between. Conditions: arguments read as groves and rows. -/
namespace Go.Proofs.YtdpijhnbhopnbaaGreatDoor
set_option linter.unusedVariables false
set_option linter.unusedSimpArgs false
open Go.RowKit

set_option maxRecDepth 100000 in
set_option maxHeartbeats 2000000 in
theorem reach_any (g : Gv) (C : Option Addr) (k q : Nat) (r : List Int) (w : World) (hg : GReads w w.heap.size g) (hr : IReads w w.heap.size C k r) (hk : k ≤ maxLen) (h0 : standE g r = 0) :
    Calls Tryz.prog 11 #[g.val, .slice C k q] w (IPost (eachV g r) w) := by
  obtain ⟨W, hW, bx, hWs, hb0⟩ := gbox w g.f g.way g.Aw g.nw g.cw g.At g.nt g.ct
  obtain ⟨c0, c1, c2, c3⟩ := bx.cells4
  obtain ⟨hG, hrow, hlen⟩ := standE_0 h0
  have hrl := hr.len
  have h8 : k ≤ 8 := by have := hG.f8; omega
  have hnt : g.ts.length = g.nt := hg.ts.len
  have hn12 : g.nt ≤ 12 := by have := hG.most; omega
  have HTR : Hid (∀ t ∈ g.ts, Right t.l (k : Int)) := hide (fun t ht => by
    have := right_of (hG.trees t ht)
    rwa [← hlen, hrl] at this)
  have HE : Hid (eachV g r = g.ts.map fun t => valAt t.l (leafOf t.l r)) := hide rfl
  have htr := hg.ts
  have HNT := hide hnt
  clear hG hrow hlen hrl h0 hg hnt
  obtain ⟨f, way, Aw, nw, cw, ws, At, nt, ct, ts⟩ := g
  simp only [Gv.val]
  dsimp only at hW bx c0 c1 c2 c3 htr hn12 HTR HE HNT
  go_enter Tryz.func11, Tryz.ntmps11
  go_wp2_with fail
  rw [← hW]
  clear hW c0 c1 c2
  go_loopw [5, 6] (fun v i wr => ∃ j : Nat, j ≤ nt ∧ i = .int .i64 j ∧ wr.ownsRow (w.heap.size + 1) 3 1 v j (((ts.map fun t => valAt t.l (leafOf t.l r)).take j).map (Value.int .i64)) ∧ Below (w.heap.size + 1) W wr) (fun _ i _ => nt - (Lib.intOf i).toNat)
  case atStart => exact ⟨0, Nat.zero_le _, rfl, World.ownsRow_nil _ _ _ _, Below.refl _ _⟩
  case round =>
    obtain ⟨j, hj, rfl, hown, hbel⟩ := hrel
    have hsz := hbel.size
    have hbw := hb0.trans (hbel.mono (by omega))
    have cc3 := (hbel.cell (p := ⟨w.heap.size, 3, none⟩) (by show w.heap.size < _; omega)).trans c3
    by_cases hlt : j < nt
    · obtain ⟨b, o, t, rfl, _, hx, hcx, hok⟩ := (htr.below hbw).get hlt
      have hRt := unhide HTR t (List.mem_of_getElem? hx)
      have hln := hok.reads.len
      obtain ⟨n, hn, _, hn1, hn2⟩ := leaf_in (r := r) hRt
      have hp := hRt.pos
      have hmost := hRt.most
      have hlf : leafOf t.l r < t.n := by rw [← hln]; exact (List.getElem?_eq_some_iff.1 hn).1
      have HX : Hid ((ts.map fun t => valAt t.l (leafOf t.l r)).take (j + 1) = (ts.map fun t => valAt t.l (leafOf t.l r)).take j ++ [n.v]) := hide (take_next (by rw [List.getElem?_map, hx]; simp [valAt, hn]))
      have hzw := hbw.size
      have hwk := rleaf_any t.A C t.n t.c k q t.l r wr (hok.reads.more hzw) ((hr.below hbw).more hzw) (by omega) (by omega) h8 hRt.behind hRt.asks
      obtain ⟨i, hi⟩ : ∃ i, i = leafOf t.l r := ⟨_, rfl⟩
      unfold RLPost at hwk
      rw [← hi] at hlf hn hwk
      have hrr := hok.reads
      have HWK := hide hwk
      obtain ⟨tA, tn, tc, tl⟩ := t
      dsimp only at hcx hln hlf hn HWK hrr HX hi
      clear hi hx hok hRt hp hmost hln hwk
      go_wp2_with fail
      refine (unhide HWK).mono ?_
      rintro e w2 ⟨v2, rfl, _, hb2⟩
      clear HWK
      obtain ⟨b5, o5, n', rfl, _, hn', _, _, _, _, _, g5⟩ := (hrr.below (hb2.mono hzw)).get hlf
      rw [hn] at hn'
      injection hn' with hn'
      subst hn'
      have hown2 := own_below hown hb2
      have hs2 := Nat.le_trans hsz hb2.size
      have c3' := (hb2.cell (p := ⟨w.heap.size, 3, none⟩) (by show w.heap.size < _; omega)).trans cc3
      have cx' := (hb2.cell (p := ⟨b, o + j, none⟩) (by dsimp only; omega)).trans hcx
      obtain ⟨x, hxe⟩ : ∃ x, x = n.v := ⟨_, rfl⟩
      rw [← hxe] at g5 hn1 hn2 HX
      have hbel2 := hbel.trans (hb2.mono (by omega))
      clear hn hrr hown hxe cc3 hcx
      go_wp2_with (at_builtin; refine app_one elem_int (.tmp 26) (.tmp 36) [.int .i64 x] rfl rfl rfl hown2 rfl rfl rfl (ints_oneCell .i64 [x]) (by omega) (by omega) ?_; intro v' w3 hown3 hb3 _ _)
      go_wp2_with fail
      go_roundw
      case rel => exact ⟨j + 1, by omega, by go_num, by rw [unhide HX, List.map_append]; exact hown3, hbel2.trans hb3⟩
      case measure => simp [Lib.intOf]; omega
    · obtain rfl : j = nt := by omega
      rw [List.take_of_length_le (by rw [List.length_map, unhide HNT]; exact Nat.le_refl _), ← unhide HE] at hown
      have HL : Hid (j = (eachV ⟨f, way, Aw, nw, cw, ws, At, j, ct, ts⟩ r).length) := hide (by rw [unhide HE, List.length_map, unhide HNT])
      go_wp2_with fail
      go_ret
      refine ⟨_, rfl, ?_, hbw⟩
      unfold IOwn
      rw [← unhide HL]
      exact own_low hown (by omega)
end Go.Proofs.YtdpijhnbhopnbaaGreatDoor
/- The references of groves: orchref1.Together, Between. Conditions: as grove.Together's. -/
namespace Go.Proofs.YtdpijhnbhopnbaaGreatDoor
set_option linter.unusedVariables false
set_option linter.unusedSimpArgs false
open Go.RowKit

/-- the best of the first values -/
def BestTo (ps : Ps) (k : Nat) (b m : Int) : Prop := (k = 0 → b = 0 ∧ m = 0) ∧ (0 < k → b ∈ (ps.take k).map (·.1) ∧ m = pVotes ps b ∧ ∀ v ∈ (ps.take k).map (·.1), pVotes ps v ≤ m ∧ (pVotes ps v = m → b ≤ v))
theorem BestTo.zero (ps : Ps) : BestTo ps 0 0 0 := ⟨fun _ => ⟨rfl, rfl⟩, fun h => absurd h (by omega)⟩
theorem BestTo.take_it {ps : Ps} {k : Nat} {b m : Int} {p : Int × Int} (h : BestTo ps k b m) (hp : ps[k]? = some p) (h1 : 1 ≤ pVotes ps p.1) (hc : m < pVotes ps p.1 ∨ pVotes ps p.1 = m ∧ p.1 < b) : BestTo ps (k + 1) p.1 (pVotes ps p.1) := by
  have ht : ps.take (k + 1) = ps.take k ++ [p] := by rw [List.take_add_one, hp]; rfl
  refine ⟨fun e => by omega, fun _ => ⟨by rw [ht]; simp, rfl, fun v hv => ?_⟩⟩
  rw [ht, List.map_append, List.mem_append] at hv
  rcases hv with hv | hv
  · rcases Nat.eq_zero_or_pos k with h0 | h0
    · subst h0; simp at hv
    · obtain ⟨h2, h3, h4⟩ := h.2 h0
      obtain ⟨h5, h6⟩ := h4 v hv
      refine ⟨by omega, fun e => ?_⟩
      rcases hc with hc | hc
      · omega
      · have := h6 (by omega); omega
  · simp at hv; subst hv; exact ⟨Int.le_refl _, fun _ => Int.le_refl _⟩
theorem BestTo.leave_it {ps : Ps} {k : Nat} {b m : Int} {p : Int × Int} (h : BestTo ps k b m) (hp : ps[k]? = some p) (h1 : 1 ≤ pVotes ps p.1) (hc : ¬ m < pVotes ps p.1) (hc2 : ¬ (pVotes ps p.1 = m ∧ p.1 < b)) : BestTo ps (k + 1) b m := by
  have ht : ps.take (k + 1) = ps.take k ++ [p] := by rw [List.take_add_one, hp]; rfl
  have hk : 0 < k := by
    rcases Nat.eq_zero_or_pos k with h0 | h0
    · have := (h.1 h0).2; omega
    · exact h0
  obtain ⟨h2, h3, h4⟩ := h.2 hk
  refine ⟨fun e => by omega, fun _ => ⟨by rw [ht, List.map_append]; exact List.mem_append_left _ h2, h3, fun v hv => ?_⟩⟩
  rw [ht, List.map_append, List.mem_append] at hv
  rcases hv with hv | hv
  · exact h4 v hv
  · simp at hv; subst hv; exact ⟨by omega, fun e => by by_cases hx : p.1 < b; exact absurd ⟨e, hx⟩ hc2; omega⟩
theorem BestTo.vote {ps : Ps} {b m : Int} (h : BestTo ps ps.length b m) (h0 : 0 < ps.length) : IsVote ps b := by
  obtain ⟨h2, h3, h4⟩ := h.2 h0
  rw [List.take_length] at h2 h4
  exact ⟨h2, fun v hv => by rw [← h3]; exact (h4 v hv).1, fun v hv e => (h4 v hv).2 (by rw [e, h3])⟩

set_option maxRecDepth 100000 in
set_option maxHeartbeats 4000000 in
theorem rtog_any (g : Gv) (Al : Option Addr) (nl cl : Nat) (l : List Int) (w : World) (hw : IReads w w.heap.size g.Aw g.nw g.ws) (hl : IReads w w.heap.size Al nl l) (hn : nl = g.nw) (h12 : nl ≤ 12) (hpos : 0 < nl)
    (hwb : ∀ x ∈ g.ws, 1 ≤ x ∧ x ≤ 1000) (hlb : ∀ x ∈ l, -1000000 ≤ x ∧ x ≤ 1000000) :
    Calls Tryz.prog 10 #[g.val, .slice Al nl cl] w fun e w' => e = .returned (.int .i64 (togV g.way g.ws l)) ∧ Below w.heap.size w w' := by
  obtain ⟨W, hW, bx, hWs, hb0⟩ := gbox w g.f g.way g.Aw g.nw g.cw g.At g.nt g.ct
  obtain ⟨c0, c1, c2, c3⟩ := bx.cells4
  obtain ⟨f, way, Aw, nw, cw, ws, At, nt, ct, ts⟩ := g
  simp only [Gv.val]
  dsimp only at hw hn hwb hW bx c0 c1 c2 c3 ⊢
  subst hn
  have hlenl := hl.len
  have hlenw := hw.len
  obtain ⟨ps, hps⟩ : ∃ ps, ps = l.zip ws := ⟨_, rfl⟩
  have hpl : ps.length = nl := by rw [hps, List.length_zip, hlenl, hlenw]; exact Nat.min_self _
  have hpb : ∀ p ∈ ps, (-1000000 ≤ p.1 ∧ p.1 ≤ 1000000) ∧ 1 ≤ p.2 ∧ p.2 ≤ 1000 := fun p hp => by
    rw [hps] at hp
    have := List.of_mem_zip (a := p.1) (b := p.2) hp
    exact ⟨hlb _ this.1, hwb _ this.2⟩
  have HB : Hid (∀ k, (-12000000000 ≤ pSum (ps.take k) ∧ pSum (ps.take k) ≤ 12000000000) ∧ (0 ≤ pAll (ps.take k) ∧ pAll (ps.take k) ≤ 12000) ∧ ∀ v, 0 ≤ pVotes (ps.take k) v ∧ pVotes (ps.take k) v ≤ 12000) := hide (fun k => take_in hpb (by omega))
  have HT : Hid (togV way ws l = if way = 1 then pSum ps else if way = 2 then pSum ps / pAll ps else voteV ps) := hide (by rw [hps]; rfl)
  have HA : Hid ((nl : Int) ≤ pAll ps) := hide (by have := (pAll_in (ps := ps) (fun p hp => (hpb p hp).2)).1; rw [hpl] at this; exact this)
  have HVP : Hid (∀ v ∈ ps.map (·.1), 1 ≤ pVotes ps v) := hide (fun v hv => pVotes_pos (fun p hp => (hpb p hp).2.1) hv)
  have HPL := hide hpl
  have HPS := hide hps
  have HPB := hide hpb
  have hlW := hl.below hb0
  have hwW := hw.below hb0
  clear hpl hps hpb hlenl hlenw hwb hlb hl hw
  go_enter Tryz.func10, Tryz.ntmps10
  go_wp2_with fail
  rw [← hW]
  clear hW
  go_loopw [5, 6, 7, 8, 9] (fun s a b m i wr => ∃ (k q : Nat) (S T B M : Int), k ≤ nl ∧ i = .int .i64 k ∧ s = .int .i64 S ∧ a = .int .i64 T ∧ b = .int .i64 B ∧ m = .int .i64 M ∧ Hid (S = pSum (ps.take k)) ∧ Hid (T = pAll (ps.take k)) ∧
      Hid (BestTo ps k B M) ∧ wr = W.drewN q) (fun _ _ _ _ i _ => nl - (Lib.intOf i).toNat)
  case atStart => exact ⟨0, 0, 0, 0, 0, 0, Nat.zero_le _, rfl, rfl, rfl, rfl, rfl, hide rfl, hide rfl, hide (BestTo.zero ps), rfl⟩
  case round =>
    obtain ⟨k, q, S, T, B, M, hk, rfl, rfl, rfl, rfl, rfl, HS, HTT, HBT, rfl⟩ := hrel
    obtain ⟨⟨hS1, hS2⟩, ⟨hT1, hT2⟩, _⟩ := unhide HB k
    rw [← unhide HS] at hS1 hS2
    rw [← unhide HTT] at hT1 hT2
    by_cases hlt : k < nl
    · obtain ⟨b, o, x, rfl, hbb, hx, cx⟩ := hlW.get hlt
      obtain ⟨b2, o2, y, rfl, hbb2, hy, cy⟩ := hwW.get hlt
      have hpk : ps[k]? = some (x, y) := by rw [unhide HPS]; exact List.getElem?_zip_eq_some.2 ⟨hx, hy⟩
      have HZ : Hid (ps.take (k + 1) = ps.take k ++ [(x, y)]) := hide (by rw [unhide HPS]; exact zip_take hx hy)
      obtain ⟨⟨hx1, hx2⟩, hy1, hy2⟩ := unhide HPB (x, y) (List.mem_of_getElem? hpk)
      dsimp only at hx1 hx2 hy1 hy2
      obtain ⟨hm1, hm2⟩ := mul_in ⟨hx1, hx2⟩ ⟨by omega, hy2⟩
      have hm3 : IntKind.i64.wrap (x * y) = x * y := IntWalk.i64_in _ (by omega)
      have hm4 : IntKind.i64.wrap (S + x * y) = S + x * y := IntWalk.i64_in _ (by omega)
      have HPK := hide hpk
      have HHX := hide hx
      have HHY := hide hy
      have HX1 := hide hx
      have hV1 : 1 ≤ pVotes ps x := unhide HVP x (List.mem_map.2 ⟨(x, y), List.mem_of_getElem? hpk, rfl⟩)
      clear hx hy hpk
      go_wp2_with fail
      go_quiet (fail)
      go_wp2_with fail
      clear hm3 hm4
      go_loopw [10, 11] (fun v i wr => ∃ (j q' : Nat) (V : Int), j ≤ nl ∧ i = .int .i64 j ∧ v = .int .i64 V ∧ Hid (V = pVotes (ps.take j) x) ∧ wr = W.drewN q') (fun _ i _ => nl - (Lib.intOf i).toNat)
      case atStart => exact ⟨0, _, 0, Nat.zero_le _, rfl, rfl, hide rfl, by first | rfl | rw [World.drewN_drewN]⟩
      case round =>
        obtain ⟨j, q', V, hj, rfl, rfl, HV, rfl⟩ := hrel
        obtain ⟨hV3, hV4⟩ := (unhide HB j).2.2 x
        rw [← unhide HV] at hV3 hV4
        by_cases hlj : j < nl
        · obtain ⟨b3, o3, x', e3, _, hx', cx'⟩ := hlW.get hlj
          cases e3
          obtain ⟨b4, o4, y', e4, _, hy', cy'⟩ := hwW.get hlj
          cases e4
          obtain ⟨⟨_, _⟩, hy1', hy2'⟩ := unhide HPB (x', y') (by rw [unhide HPS]; exact List.mem_of_getElem? (List.getElem?_zip_eq_some.2 ⟨hx', hy'⟩))
          have HZ2 : Hid (ps.take (j + 1) = ps.take j ++ [(x', y')]) := hide (by rw [unhide HPS]; exact zip_take hx' hy')
          dsimp only at hy1' hy2'
          clear hx' hy'
          by_cases hxx : x' = x
          · have e1 : (x' == x) = true := by simp [hxx]
            have HV2 : Hid (V + y' = pVotes (ps.take (j + 1)) x) := hide (by rw [unhide HZ2, unhide HV, ← hxx]; exact (pVotes_snoc_same _ (x', y')).symm)
            clear hxx
            go_wp2_with fail
            go_quiet (fail)
            go_wp2_with fail
            go_roundw
            case rel => exact ⟨j + 1, _, V + y', by omega, by go_num, rfl, HV2, by first | rfl | rw [World.drewN_drewN]⟩
            case measure => simp [Lib.intOf]; omega
          · have e1 : (x' == x) = false := by simp [hxx]
            have HV2 : Hid (V = pVotes (ps.take (j + 1)) x) := hide (by rw [unhide HZ2, unhide HV]; exact (pVotes_snoc_other _ (x', y') hxx).symm)
            clear hxx
            go_wp2_with fail
            go_quiet (fail)
            go_wp2_with fail
            go_roundw
            case rel => exact ⟨j + 1, _, V, by omega, by go_num, rfl, HV2, by first | rfl | rw [World.drewN_drewN]⟩
            case measure => simp [Lib.intOf]; omega
        · obtain rfl : j = nl := by omega
          have HVV : Hid (V = pVotes ps x) := hide (by rw [unhide HV, List.take_of_length_le (by rw [unhide HPL]; exact Nat.le_refl _)])
          rw [← unhide HVV] at hV1
          have HS2 : Hid (S + x * y = pSum (ps.take (k + 1))) := hide (by rw [unhide HZ, pSum_snoc, unhide HS])
          have HT2 : Hid (T + y = pAll (ps.take (k + 1))) := hide (by rw [unhide HZ, pAll_snoc, unhide HTT])
          by_cases q1 : M < V
          · have e1 : decide (M < V) = true := decide_eq_true q1
            have HB2 : Hid (BestTo ps (k + 1) x V) := hide (by rw [unhide HVV]; exact (unhide HBT).take_it (unhide HPK) (by rw [← unhide HVV]; exact hV1) (.inl (by rw [← unhide HVV]; exact q1)))
            clear q1
            go_wp2_with fail
            go_roundw
            case rel => exact ⟨k + 1, _, _, _, _, _, by omega, by go_num, rfl, rfl, rfl, rfl, HS2, HT2, HB2, rfl⟩
            case measure => simp [Lib.intOf]; omega
          · have e1 : decide (M < V) = false := decide_eq_false q1
            by_cases q2 : V = M
            · have e2 : (V == M) = true := by simp [q2]
              by_cases q3 : x < B
              · have e3 : decide (x < B) = true := decide_eq_true q3
                have HB2 : Hid (BestTo ps (k + 1) x V) := hide (by rw [unhide HVV]; exact (unhide HBT).take_it (unhide HPK) (by rw [← unhide HVV]; exact hV1) (.inr ⟨by rw [← unhide HVV]; exact q2, q3⟩))
                clear q1 q2 q3
                go_wp2_with fail
                go_roundw
                case rel => exact ⟨k + 1, _, _, _, _, _, by omega, by go_num, rfl, rfl, rfl, rfl, HS2, HT2, HB2, rfl⟩
                case measure => simp [Lib.intOf]; omega
              · have e3 : decide (x < B) = false := decide_eq_false q3
                have HB2 : Hid (BestTo ps (k + 1) B M) := hide ((unhide HBT).leave_it (unhide HPK) (by rw [← unhide HVV]; exact hV1) (by rw [← unhide HVV]; exact q1) (by intro h; exact q3 h.2))
                clear q1 q2 q3
                go_wp2_with fail
                go_roundw
                case rel => exact ⟨k + 1, _, _, _, _, _, by omega, by go_num, rfl, rfl, rfl, rfl, HS2, HT2, HB2, rfl⟩
                case measure => simp [Lib.intOf]; omega
            · have e2 : (V == M) = false := by simp [q2]
              have HB2 : Hid (BestTo ps (k + 1) B M) := hide ((unhide HBT).leave_it (unhide HPK) (by rw [← unhide HVV]; exact hV1) (by rw [← unhide HVV]; exact q1) (by intro h; exact q2 (by rw [unhide HVV]; exact h.1)))
              clear q1 q2
              go_wp2_with fail
              go_roundw
              case rel => exact ⟨k + 1, _, _, _, _, _, by omega, by go_num, rfl, rfl, rfl, rfl, HS2, HT2, HB2, rfl⟩
              case measure => simp [Lib.intOf]; omega
    · obtain rfl : k = nl := by omega
      have htk : ps.take k = ps := List.take_of_length_le (by rw [unhide HPL]; exact Nat.le_refl _)
      have hS0 := unhide HS
      have hT0 := unhide HTT
      rw [htk] at hS0 hT0
      have HS0 := hide hS0
      have HT0 := hide hT0
      have hTp : 0 < T := by rw [hT0]; have := unhide HA; omega
      have hbt := unhide HBT
      have hvote : voteV ps = B := by
        refine voteV_eq (BestTo.vote (m := M) ?_ (by rw [unhide HPL]; omega))
        rw [unhide HPL]; exact hbt
      have HVT := hide hvote
      have hBf := below_drewN hb0 q
      clear hS0 hT0 htk HS HTT hbt hvote HBT
      by_cases h1 : way = 1
      · have e1 : (way == 1) = true := by simp [h1]
        have HR : Hid (togV way ws l = S) := hide (by rw [unhide HT, if_pos h1, unhide HS0])
        clear h1
        go_wp2_with fail
        go_ret
        exact ⟨by rw [unhide HR]; rfl, hBf⟩
      have e1 : (way == 1) = false := by simp [h1]
      by_cases h2 : way = 2
      · have e2 : (way == 2) = true := by simp [h2]
        have HR : Hid (togV way ws l = S / T) := hide (by rw [unhide HT, if_neg h1, if_pos h2, unhide HS0, unhide HT0])
        clear h1 h2
        go_wp2_with fail
        refine (rfloor_any S T _ hTp (by omega) (by omega) (by omega)).mono ?_
        rintro e w3 ⟨rfl, rfl⟩
        go_wp2_with fail
        go_ret
        exact ⟨by rw [unhide HR]; rfl, hBf⟩
      have e2 : (way == 2) = false := by simp [h2]
      have HR : Hid (togV way ws l = B) := hide (by rw [unhide HT, if_neg h1, if_neg h2, unhide HVT])
      clear h1 h2
      go_wp2_with fail
      go_ret
      exact ⟨by rw [unhide HR]; rfl, hBf⟩
end Go.Proofs.YtdpijhnbhopnbaaGreatDoor
/- orchsame.Nodes of two trees that are the same. Conditions: arguments read as nodes. -/
namespace Go.Proofs.YtdpijhnbhopnbaaGreatDoor
set_option linter.unusedVariables false
set_option linter.unusedSimpArgs false
open Go.RowKit

def ndEq (a b : Nd) : Bool := a.f == b.f && a.c == b.c && a.l == b.l && a.r == b.r && a.less == b.less && a.v == b.v
theorem ndEq_t {a b : Nd} : ndEq a b = true ↔ a = b := by
  obtain ⟨a0, a1, a2, a3, a4, a5⟩ := a
  obtain ⟨b0, b1, b2, b3, b4, b5⟩ := b
  simp [ndEq, and_assoc]
set_option maxRecDepth 100000 in
theorem neq_node (a b : Nd) (W : World) : (binOp .neq 51 (.agg #[.int .i64 a.f, .int .i64 a.c, .int .i64 a.l, .int .i64 a.r, .bool a.less, .int .i64 a.v]) (.agg #[.int .i64 b.f, .int .i64 b.c, .int .i64 b.l, .int .i64 b.r, .bool b.less, .int .i64 b.v])).run Tryz.prog W = .ok (.bool (!(ndEq a b))) W := by
  have u := Tryz.underlying51
  have ui := Tryz.underlying3
  have ub := Tryz.underlying4
  rw [run_neq_struct, run_equalIn_agg _ _ _ _ _ (by unfold Program.fieldsOf; rw [u]) (by kernel_rfl)]
  simp only [Program.fieldsOf, u]
  simp [Op.eqFields, part, go_sem, ui, ub]
  unfold ndEq
  by_cases h0 : a.f = b.f <;> by_cases h1 : a.c = b.c <;> by_cases h2 : a.l = b.l <;> by_cases h3 : a.r = b.r <;> by_cases h4 : a.less = b.less <;> by_cases h5 : a.v = b.v <;> simp [h0, h1, h2, h3, h4, h5]
theorem same_node (f c l r : Int) (less : Bool) (v : Int) (W : World) : (binOp .neq 51 (.agg #[.int .i64 f, .int .i64 c, .int .i64 l, .int .i64 r, .bool less, .int .i64 v]) (.agg #[.int .i64 f, .int .i64 c, .int .i64 l, .int .i64 r, .bool less, .int .i64 v])).run Tryz.prog W = .ok (.bool false) W := by
  have := neq_node ⟨f, c, l, r, less, v⟩ ⟨f, c, l, r, less, v⟩ W
  rw [ndEq_t.2 rfl] at this
  exact this
set_option maxRecDepth 100000 in
set_option maxHeartbeats 1000000 in
theorem sameNodes_any (A C : Option Addr) (n ca cc : Nat) (xs : List Nd) (w : World) (BA BC : Nat) (ha : NReads w BA A n xs) (hc : NReads w BC C n xs) (hn : n ≤ maxLen) :
    Calls Tryz.prog 25 #[.slice A n ca, .slice C n cc] w fun e w' => e = .returned (.bool true) ∧ ∃ q, w' = w.drewN q := by
  unfold maxLen at hn
  have e0 : ((n : Int) != (n : Int)) = false := by simp
  go_enter Tryz.func25, Tryz.ntmps25
  go_wp2
  go_loopw [5] (fun i wr => ∃ k q : Nat, k ≤ n ∧ i = .int .i64 k ∧ wr = w.drewN q) (fun i _ => n - (intOf i).toNat)
  case atStart => exact ⟨0, 0, Nat.zero_le _, rfl, rfl⟩
  case round =>
    obtain ⟨k, q, hk, rfl, rfl⟩ := hrel
    by_cases hlt : k < n
    · obtain ⟨b, o, x, rfl, _, hx, c0, c1, c2, c3, c4, c5⟩ := ha.get hlt
      obtain ⟨b2, o2, y, rfl, _, hy, d0, d1, d2, d3, d4, d5⟩ := hc.get hlt
      rw [hx] at hy
      injection hy with hy
      subst hy
      obtain ⟨f, c, l, r, less, v⟩ := x
      dsimp only at c0 c1 c2 c3 c4 c5 d0 d1 d2 d3 d4 d5
      have hneq := same_node f c l r less v
      clear hx
      go_wp2_with fail
      go_quiet (fail)
      go_wp2_with fail
      go_roundw
      case rel => exact ⟨k + 1, q + nq, by omega, by go_num, by first | rfl | rw [World.drewN_drewN]⟩
      case measure => simp [intOf]; omega
    · go_wp2
      go_ret
      exact ⟨rfl, q, rfl⟩
end Go.Proofs.YtdpijhnbhopnbaaGreatDoor
/- orchsame.Nodes, Grove, Spans: contracts. Conditions: arguments read as data. -/
namespace Go.Proofs.YtdpijhnbhopnbaaGreatDoor
set_option linter.unusedVariables false
set_option linter.unusedSimpArgs false
open Go.RowKit

theorem quiet_drewN {P : Program} {f : FuncId} {args : Array Value} {w : World} {n : Nat} {v : Value}
    (h : Calls P f args (w.drewN n) fun e w' => e = .returned v ∧ ∃ q, w' = (w.drewN n).drewN q) : Calls P f args (w.drewN n) fun e w' => e = .returned v ∧ ∃ m, w' = w.drewN m :=
  h.mono fun _ _ ⟨he, q, hq⟩ => ⟨he, n + q, by rw [hq, World.drewN_drewN]⟩
theorem TReads.drewN {w : World} {B n : Nat} {A : Option Addr} {ts : List Tr} (h : TReads w B A n ts) (q : Nat) : TReads (w.drewN q) B A n ts := ⟨h.1.drewN q, fun r hr => ⟨(h.2 r hr).reads.drewN q, (h.2 r hr).len, (h.2 r hr).nil⟩⟩

set_option maxRecDepth 100000 in
set_option maxHeartbeats 2000000 in
theorem sameGrove_any (g h : Gv) (w : World) (hg : GReads w w.heap.size g) (hh : GReads w w.heap.size h) (h1 : g.f = h.f) (h2 : g.way = h.way) (h3 : g.ws = h.ws) (h4 : g.trees = h.trees) :
    Calls Tryz.prog 8 #[g.val, h.val] w fun e w' => e = .returned (.bool true) ∧ Below w.heap.size w w' := by
  obtain ⟨f, way, Aw, nw, cw, ws, At, nt, ct, ts⟩ := g
  obtain ⟨f', way', Aw', nw', cw', ws', At', nt', ct', ts'⟩ := h
  dsimp only at h1 h2 h3
  subst h1 h2 h3
  have hlen : nt = nt' := by
    have e1 := hg.ts.len
    have e2 := hh.ts.len
    have e3 := congrArg List.length h4
    simp [Gv.trees] at e3
    dsimp only at e1 e2
    omega
  have hwl : nw = nw' := by have e1 := hg.ws.len; have e2 := hh.ws.len; dsimp only at e1 e2; omega
  subst hlen hwl
  obtain ⟨W, hW, bg, bo, hWs, hb0⟩ : ∃ W, W = (w.alloc (.cells #[.int .i64 f, .int .i64 way, .slice Aw nw cw, .slice At nt ct] 26)).alloc (.cells #[.int .i64 f, .int .i64 way, .slice Aw' nw cw', .slice At' nt ct'] 26) ∧
      Blk W w.heap.size 26 #[.int .i64 f, .int .i64 way, .slice Aw nw cw, .slice At nt ct] ∧ Blk W (w.heap.size + 1) 26 #[.int .i64 f, .int .i64 way, .slice Aw' nw cw', .slice At' nt ct'] ∧ W.heap.size = w.heap.size + 1 + 1 ∧ Below w.heap.size w W := by
    refine ⟨_, rfl, (Blk.new _ _ _).alloc _, ?_, by simp, ((Below.refl _ _).alloc (Nat.le_refl _) _).alloc (by simp) _⟩
    have := Blk.new (w.alloc (.cells #[.int .i64 f, .int .i64 way, .slice Aw nw cw, .slice At nt ct] 26)) 26 #[.int .i64 f, .int .i64 way, .slice Aw' nw cw', .slice At' nt ct']
    rwa [World.size_alloc] at this
  obtain ⟨x0, x1, x2, x3⟩ := bg.cells4
  obtain ⟨y0, y1, y2, y3⟩ := bo.cells4
  have hnw := hg.nw
  have hnt := hg.nt
  have hin := hide (ints_any Aw Aw' nw nw cw cw' ws ws W _ _ (hg.ws.below hb0) (hh.ws.below hb0) hnw hnw)
  have htg := hg.ts.below hb0
  have hth := hh.ts.below hb0
  have HTR : Hid (∀ (k : Nat) r r', ts[k]? = some r → ts'[k]? = some r' → r.l = r'.l) := hide (fun k r r' e1 e2 => by
    have q1 : (ts.map Tr.l)[k]? = some r.l := by rw [List.getElem?_map, e1]; rfl
    have q2 : (ts'.map Tr.l)[k]? = some r'.l := by rw [List.getElem?_map, e2]; rfl
    have h4' : ts.map Tr.l = ts'.map Tr.l := h4
    rw [h4', q2] at q1
    injection q1 with q1
    exact q1.symm)
  dsimp only at htg hth hnt
  unfold maxLen at hnt
  clear hg hh h4 hnw
  have e1 : (f != f) = false := by simp
  have e2 : (way != way) = false := by simp
  have e3 : ((nt : Int) != (nt : Int)) = false := by simp
  simp only [Gv.val]
  go_enter Tryz.func8, Tryz.ntmps8
  go_wp2_with fail
  rw [← hW]
  clear hW
  refine (unhide hin).mono ?_
  rintro e w1 ⟨rfl, q1, rfl⟩
  rw [beq_self_eq_true]
  clear hin
  go_wp2_with fail
  go_loopw [6] (fun i wr => ∃ k q : Nat, k ≤ nt ∧ i = .int .i64 k ∧ wr = W.drewN q) (fun i _ => nt - (Lib.intOf i).toNat)
  case atStart => exact ⟨0, q1, Nat.zero_le _, rfl, rfl⟩
  case round =>
    obtain ⟨k, q, hk, rfl, rfl⟩ := hrel
    by_cases hlt : k < nt
    · obtain ⟨b, o, r, rfl, _, hx, hcx, hok⟩ := htg.get hlt
      obtain ⟨b2, o2, r', rfl, _, hx', hcx', hok'⟩ := hth.get hlt
      have hll := unhide HTR k r r' hx hx'
      have hr1 := hok.reads
      have hr2 := hok'.reads
      have hn1 := hok.len
      rw [← hll] at hr2
      have hnn : r.n = r'.n := by rw [← hr1.len, ← hr2.len]
      obtain ⟨rA, rn, rc, rl⟩ := r
      obtain ⟨rA', rn', rc', rl'⟩ := r'
      dsimp only at hcx hcx' hr1 hr2 hn1 hnn
      subst hnn
      have hcon := hide (fun (m : Nat) => sameNodes_any rA rA' rn rc rc' rl (W.drewN m) _ _ (Reads.drewN hr1 m) (Reads.drewN hr2 m) hn1)
      clear hx hx' hll hok hok' hr1 hr2
      go_wp2_with fail
      go_quiet ((go_at_call 25; exact quiet_add (unhide hcon _)))
      go_wp2_with fail
      go_roundw
      case rel => exact ⟨k + 1, q + nq, by omega, by go_num, by first | rfl | rw [World.drewN_drewN]⟩
      case measure => simp [Lib.intOf]; omega
    · go_wp2_with fail
      go_ret
      exact ⟨rfl, below_drewN hb0 q⟩
end Go.Proofs.YtdpijhnbhopnbaaGreatDoor
