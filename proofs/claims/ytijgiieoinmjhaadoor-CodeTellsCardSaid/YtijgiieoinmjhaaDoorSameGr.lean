/- orchsame.Grove of two groves that are the same. Conditions: both read as data. -/
import Derived.Test.YtijgiieoinmjhaaDoorSameNd
import Derived.Test.YtijgiieoinmjhaaDoorGrove
import Derived.StillTailTactics
namespace Go.Proofs.YtijgiieoinmjhaaDoor
set_option linter.unusedVariables false
set_option linter.unusedSimpArgs false
open Go.RowKit

set_option maxRecDepth 100000 in
set_option maxHeartbeats 4000000 in
theorem sameGrove_any (g h : Gv) (w : World) (hg : GReads w w.heap.size g) (hh : GReads w w.heap.size h) (e1 : h.f = g.f) (e2 : h.way = g.way) (e3 : h.ws = g.ws) (e4 : h.trees = g.trees) :
    Calls Tryd.prog 38 #[g.val, h.val] w fun e w' => e = .returned (.bool true) ∧ Below w.heap.size w w' := by
  obtain ⟨f, way, Aw, nw, cw, ws, At, nt, ct, ts⟩ := g
  obtain ⟨f', way', Aw', nw', cw', ws', At', nt', ct', ts'⟩ := h
  dsimp only at e1 e2 e3
  subst e1
  subst e2
  subst e3
  have hgt := hg.ts
  have hht := hh.ts
  have hgw := hg.ws
  have hhw := hh.ws
  have hnw := hg.nw
  have hnw' := hh.nw
  have hnt := hg.nt
  dsimp only at hgt hht hgw hhw hnw hnw' hnt
  have hlt := hgt.len
  have hlt' := hht.len
  have e5 : nt' = nt := by
    have h1 := congrArg List.length e4
    rw [Gv.trees_len, Gv.trees_len] at h1
    have h2 : ts'.length = ts.length := h1
    omega
  subst e5
  have HT : Hid (∀ (k : Nat) r r', ts[k]? = some r → ts'[k]? = some r' → r'.l = r.l) := hide (fun k r r' h1 h2 => by
    have h3 := congrArg (fun l => l[k]?) e4
    have h4 : (ts'.map Tr.l)[k]? = (ts.map Tr.l)[k]? := h3
    rw [List.getElem?_map, List.getElem?_map, h1, h2] at h4
    simpa using h4)
  simp only [Gv.val]
  obtain ⟨W, hW, b1, b2, hWs, hb0⟩ : ∃ W, W = (w.alloc (.cells #[.int .i64 f', .int .i64 way', .slice Aw nw cw, .slice At nt' ct] 73)).alloc (.cells #[.int .i64 f', .int .i64 way', .slice Aw' nw' cw', .slice At' nt' ct'] 73) ∧
      Blk W w.heap.size 73 #[.int .i64 f', .int .i64 way', .slice Aw nw cw, .slice At nt' ct] ∧ Blk W (w.heap.size + 1) 73 #[.int .i64 f', .int .i64 way', .slice Aw' nw' cw', .slice At' nt' ct'] ∧ W.heap.size = w.heap.size + 1 + 1 ∧ Below w.heap.size w W := by
    refine ⟨_, rfl, (Blk.new _ _ _).alloc _, ?_, by simp, ((Below.refl _ _).alloc (Nat.le_refl _) _).alloc (by simp) _⟩
    have := Blk.new (w.alloc (.cells #[.int .i64 f', .int .i64 way', .slice Aw nw cw, .slice At nt' ct] 73)) 73 #[.int .i64 f', .int .i64 way', .slice Aw' nw' cw', .slice At' nt' ct']
    rwa [World.size_alloc] at this
  have c2 := b1.cell 2
  have d2 := b2.cell 2
  simp at c2 d2
  unfold maxLen at hnt
  clear e4 hg hh hlt hlt'
  go_enter Tryd.func38, Tryd.ntmps38
  go_wp2_with fail
  rw [← hW]
  clear hW
  go_wp2_with fail
  refine (ints_any Aw Aw' nw nw' cw cw' ws' ws' W w.heap.size w.heap.size (hgw.below hb0) (hhw.below hb0) hnw hnw').mono ?_
  rintro e w1 ⟨rfl, q1, hw1⟩
  rw [beq_self_eq_true]
  have hb1 : Below W.heap.size W w1 := by rw [hw1]; exact below_drewN (Below.refl _ _) _
  have b11 := b1.below hb1 (by omega)
  have b21 := b2.below hb1 (by omega)
  have hB1 := hb0.trans (hb1.mono hb0.size)
  clear hw1 hb1 b1 b2 c2 d2 hb0
  have c0 := b11.cell 0
  have c1 := b11.cell 1
  have c3 := b11.cell 3
  have d0 := b21.cell 0
  have d1 := b21.cell 1
  have d3 := b21.cell 3
  simp at c0 c1 c3 d0 d1 d3
  have e1 : (f' != f') = false := by simp
  have e2 : (way' != way') = false := by simp
  have e3 : ((nt' : Int) != (nt' : Int)) = false := by simp
  have hz1 : w.heap.size + 1 + 1 ≤ w1.heap.size := by have := b11.lt; have := b21.lt; omega
  go_wp2_with fail
  clear c0 c1 c3 d0 d1 d3 e1 e2 e3
  go_loopw [6] (fun i wr => ∃ k : Nat, k ≤ nt' ∧ i = .int .i64 k ∧ Blk wr w.heap.size 73 #[.int .i64 f', .int .i64 way', .slice Aw nw cw, .slice At nt' ct] ∧ Blk wr (w.heap.size + 1) 73 #[.int .i64 f', .int .i64 way', .slice Aw' nw' cw', .slice At' nt' ct'] ∧ Below w.heap.size w wr) (fun i _ => nt' - (intOf i).toNat)
  case atStart => exact ⟨0, Nat.zero_le _, rfl, b11, b21, hB1⟩
  case round =>
    clear b11 b21 hB1
    obtain ⟨k, hk, rfl, b11, b21, hbel⟩ := hrel
    have c3 := b11.cell 3
    have d3 := b21.cell 3
    simp at c3 d3
    by_cases hlk : k < nt'
    · obtain ⟨b, o, r, rfl, _, hx, hcx, hok⟩ := (hgt.below hbel).get hlk
      obtain ⟨b', o', r', rfl, _, hy, hcy, hok'⟩ := (hht.below hbel).get hlk
      have hl := unhide HT k r r' hx hy
      have hr1 := hok.reads
      have hr2 := hok'.reads
      have hln := hok.len
      rw [hl] at hr2
      obtain ⟨rA, rn, rc, rl⟩ := r
      obtain ⟨sA, sn, sc, sl⟩ := r'
      dsimp only at hcx hcy hr1 hr2 hl hln
      have hn1 := hr1.len
      have hn2 := hr2.len
      obtain rfl : sn = rn := by omega
      have HC := hide (sameNodes_any rA sA sn rc sc rl wr.drew w.heap.size w.heap.size (Reads.drew hr1) (Reads.drew hr2) hln)
      clear hx hy hok hok' hr1 hr2 hl hn1 hn2 hln
      go_wp2_with fail
      go_still_tail 10, (by kernel_rfl)
      go_wp2_with fail
      refine (unhide HC).mono ?_
      rintro e w3 ⟨rfl, q3, hw3⟩
      have hb3 : Below wr.heap.size wr w3 := by rw [hw3]; exact below_drewN ((Below.refl _ _).drew) _
      have b12 := b11.below hb3 b11.lt
      have b22 := b21.below hb3 b21.lt
      have hB3 := hbel.trans (hb3.mono hbel.size)
      clear hw3 hb3 HC b11 b21 hbel c3 d3 hcx hcy
      go_wp2_with fail
      go_roundw
      case rel => exact ⟨k + 1, by omega, by go_num, b12, b22, hB3⟩
      case measure => simp [intOf]; omega
    · obtain rfl : k = nt' := by omega
      go_wp2_with fail
      go_ret
      exact ⟨rfl, hbel⟩
end Go.Proofs.YtijgiieoinmjhaaDoor
