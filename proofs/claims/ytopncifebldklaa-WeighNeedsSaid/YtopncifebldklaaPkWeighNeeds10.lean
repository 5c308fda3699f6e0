/- Part 10 of what LawWeighNeeds needs: GroveOps, GroveOps2, Bits, Code, CodeRow, Span, Side. Conditions: as each lemma names. -/
import Derived.Test.YtopncifebldklaaPkWeighNeeds09
import Derived.Test.YtopncifebldklaaPkWeighNeeds01
import Derived.Laws.BitsAllLaws
import Derived.Laws.BitsLemmas
import Derived.Test.YtopncifebldklaaPkWeighNeeds06
import Derived.WalkSpells
import Derived.Deep.DeepMust
import Derived.Test.YtopncifebldklaaPkWeighNeeds02
/- grove.Ready, Each, Eval: contracts. Conditions: arguments read as lists. -/
namespace Go.Proofs.Ytopncifebldklaa
set_option linter.unusedVariables false
set_option linter.unusedSimpArgs false
open Go.RowKit

def standE (g : Gv) (r : List Int) : Int := if g.e = 0 then (if rowE r = 0 then (if (r.length : Int) = g.f then 0 else 3) else rowE r) else g.e
def eachV (g : Gv) (r : List Int) : List Int := g.ts.map fun t => valAt t.l (leafOf t.l r)
def eachR (g : Gv) (r : List Int) : List Int := if standE g r = 0 then eachV g r else []
noncomputable def gevalV (g : Gv) (r : List Int) : Int := if standE g r = 0 then togV g.way g.ws (eachV g r) else 0
theorem standE_0 {g : Gv} {r : List Int} (h : standE g r = 0) : GRight g ∧ rowE r = 0 ∧ (r.length : Int) = g.f := by
  unfold standE at h
  by_cases h1 : g.e = 0
  · rw [if_pos h1] at h
    by_cases h2 : rowE r = 0
    · rw [if_pos h2] at h
      by_cases h3 : (r.length : Int) = g.f
      · exact ⟨groveE_right h1, h2, h3⟩
      · rw [if_neg h3] at h; cases h
    · rw [if_neg h2] at h; exact absurd h h2
  · rw [if_neg h1] at h; exact absurd h h1
theorem Blk.cells4 {w : World} {g : Nat} {T : TypeId} {x0 x1 x2 x3 : Value} (h : Blk w g T #[x0, x1, x2, x3]) : w.cell? ⟨g, 0, none⟩ = some x0 ∧ w.cell? ⟨g, 1, none⟩ = some x1 ∧ w.cell? ⟨g, 2, none⟩ = some x2 ∧ w.cell? ⟨g, 3, none⟩ = some x3 :=
  ⟨h.cell 0, h.cell 1, h.cell 2, h.cell 3⟩
theorem gbox (w : World) (f way : Int) (Aw : Option Addr) (nw cw : Nat) (At : Option Addr) (nt ct : Nat) : ∃ W, W = w.alloc (.cells #[.int .i64 f, .int .i64 way, .slice Aw nw cw, .slice At nt ct] 25) ∧
    Blk W w.heap.size 25 #[.int .i64 f, .int .i64 way, .slice Aw nw cw, .slice At nt ct] ∧ W.heap.size = w.heap.size + 1 ∧ Below w.heap.size w W :=
  ⟨_, rfl, Blk.new _ _ _, by simp, (Below.refl _ _).alloc (Nat.le_refl _) _⟩

set_option maxRecDepth 100000 in
set_option maxHeartbeats 1000000 in
theorem gready_any (g : Gv) (C : Option Addr) (k q : Nat) (r : List Int) (w : World) (hg : GReads w w.heap.size g) (hr : IReads w w.heap.size C k r) (hk : k ≤ maxLen) :
    Calls Try.prog 42 #[g.val, .slice C k q] w fun e w' => e = .returned (errV (standE g r)) ∧ Below w.heap.size w w' := by
  obtain ⟨W, hW, bx, hWs, hb0⟩ := gbox w g.f g.way g.Aw g.nw g.cw g.At g.nt g.ct
  have hck := hide (gcheck_any g W ((hg.below hb0).more (by omega)))
  have hrk := hr.len
  have c0 := bx.cell 0
  have c1 := bx.cell 1
  have c2 := bx.cell 2
  have c3 := bx.cell 3
  simp at c0 c1 c2 c3
  unfold maxLen at hk
  have HK := hide hrk
  have HS : Hid (standE g r = if g.e = 0 then (if rowE r = 0 then (if (r.length : Int) = g.f then 0 else 3) else rowE r) else g.e) := hide rfl
  generalize standE g r = SE at *
  have HG := hide hg
  clear hg hrk
  by_cases h1 : g.e = 0
  · have hv := errV_0 h1
    have HV := hide hv
    have HS1 : Hid (SE = (if rowE r = 0 then (if (r.length : Int) = g.f then 0 else 3) else rowE r)) := hide (by rw [unhide HS, if_pos h1])
    clear h1
    obtain ⟨f, way, Aw, nw, cw, ws, At, nt, ct, ts⟩ := g
    simp only [Gv.val] at hck ⊢
    dsimp only at hW bx c0 c1 c2 c3 hv HS1
    have HE := hide hv
    go_enter Try.func42, Try.ntmps42
    go_wp2_with fail
    rw [← hW]
    refine (unhide hck).mono ?_
    rintro e w1 ⟨rfl, hb1⟩
    rw [hv]
    have z1 := hb1.size
    have d0 : w1.cell? ⟨w.heap.size, 0, none⟩ = some (.int .i64 f) := (hb1.cell (p := ⟨w.heap.size, 0, none⟩) (by show w.heap.size < _; omega)).trans c0
    have hB1 := hb0.trans (hb1.mono (by omega))
    have hrc := hide (rowCheck_any C k q r w1 _ (hr.below hB1) (by unfold maxLen; omega))
    clear hv hck hW c0 c1 c2 c3 bx
    by_cases h2 : rowE r = 0
    · have hv2 := errV_0 h2
      have HS2 : Hid (SE = if (r.length : Int) = f then 0 else 3) := hide (by rw [unhide HS1, if_pos h2])
      clear h2
      go_wp2_with fail
      refine (unhide hrc).mono ?_
      rintro e w2 ⟨rfl, rfl⟩
      rw [hv2]
      clear hv2
      by_cases h3 : (k : Int) = f
      · have HS3 : Hid (SE = 0) := hide (by rw [unhide HS2, unhide HK, if_pos h3])
        have e3 : ((k : Int) != f) = false := by simp [h3]
        clear h3
        go_wp2_with fail
        go_ret
        exact ⟨by rw [unhide HS3]; rfl, hB1⟩
      · have HS3 : Hid (SE = 3) := hide (by rw [unhide HS2, unhide HK, if_neg h3])
        have e3 : ((k : Int) != f) = true := by simp [h3]
        clear h3
        go_wp2_with fail
        go_ret
        exact ⟨by rw [unhide HS3]; rfl, hB1⟩
    · have hv2 := errV_1 h2
      have HV2 := hide hv2
      have HS2 : Hid (SE = rowE r) := hide (by rw [unhide HS1, if_neg h2])
      clear h2
      go_wp2_with fail
      refine (unhide hrc).mono ?_
      rintro e w2 ⟨rfl, rfl⟩
      rw [hv2]
      clear hv2
      go_wp2_with fail
      go_ret
      exact ⟨by rw [unhide HS2, unhide HV2]; rfl, hB1⟩
  · have hv := errV_1 h1
    have HV := hide hv
    have HS1 : Hid (SE = g.e) := hide (by rw [unhide HS, if_neg h1])
    clear h1
    obtain ⟨E, hE⟩ : ∃ E, E = g.e := ⟨_, rfl⟩
    rw [← hE] at HS1 hck hv HV
    clear hE
    obtain ⟨f, way, Aw, nw, cw, ws, At, nt, ct, ts⟩ := g
    simp only [Gv.val] at hck ⊢
    dsimp only at hW bx c0 c1 c2 c3
    go_enter Try.func42, Try.ntmps42
    go_wp2_with fail
    rw [← hW]
    refine (unhide hck).mono ?_
    rintro e w1 ⟨rfl, hb1⟩
    rw [hv]
    clear hv hck
    go_wp2_with fail
    go_ret
    exact ⟨by rw [unhide HS1, unhide HV]; rfl, hb0.trans (hb1.mono (by omega))⟩

/-- what Each answers -/
def EachPost (g : Gv) (r : List Int) (w : World) (e : Ending) (w' : World) : Prop :=
  ∃ v, e = .returned (.tuple #[v, errV (standE g r)]) ∧ IOwn w' w.heap.size v (eachR g r) ∧ Below w.heap.size w w'
theorem leaf_in {t : List Nd} {fe : Int} {r : List Int} (h : Right t fe) : ∃ n, t[leafOf t r]? = some n ∧ n.f = -1 ∧ -1000000 ≤ n.v ∧ n.v ≤ 1000000 := by
  obtain ⟨n, hn, hf⟩ := leafOf_is (row := r) h.behind h.pos
  rcases node_of (h.node _ n hn) with h1 | h1
  · exact ⟨n, hn, hf, h1.2.1, h1.2.2.1⟩
  · omega

set_option maxRecDepth 100000 in
set_option maxHeartbeats 2000000 in
theorem each_any (g : Gv) (C : Option Addr) (k q : Nat) (r : List Int) (w : World) (hg : GReads w w.heap.size g) (hr : IReads w w.heap.size C k r) (hk : k ≤ maxLen) :
    Calls Try.prog 26 #[g.val, .slice C k q] w (EachPost g r w) := by
  obtain ⟨W, hW, bx, hWs, hb0⟩ := gbox w g.f g.way g.Aw g.nw g.cw g.At g.nt g.ct
  have hrd := hide (gready_any g C k q r W ((hg.below hb0).more (by omega)) ((hr.below hb0).more (by omega)) hk)
  have c0 := bx.cell 0
  have c1 := bx.cell 1
  have c2 := bx.cell 2
  have c3 := bx.cell 3
  simp at c0 c1 c2 c3
  by_cases h0 : standE g r = 0
  · have hv := errV_0 h0
    have HR : Hid (eachR g r = eachV g r) := hide (by unfold eachR; rw [if_pos h0])
    obtain ⟨hG, hrow, hlen⟩ := standE_0 h0
    have hrl := hr.len
    have h8 : k ≤ 8 := by have := hG.f8; omega
    have hnt : g.ts.length = g.nt := hg.ts.len
    have hn12 : g.nt ≤ 12 := by have := hG.most; omega
    have HTR : Hid (∀ t ∈ g.ts, Right t.l (k : Int)) := hide (fun t ht => by
      have := right_of (hG.trees t ht)
      rwa [← hlen, hrl] at this)
    have HE : Hid (eachV g r = g.ts.map fun t => valAt t.l (leafOf t.l r)) := hide rfl
    have HV := hide hv
    have htr := hg.ts
    have HNT := hide hnt
    clear hG hrow hlen hrl h0 hg hnt
    obtain ⟨f, way, Aw, nw, cw, ws, At, nt, ct, ts⟩ := g
    simp only [Gv.val] at hrd ⊢
    dsimp only at hW bx c0 c1 c2 c3 htr hn12 HTR HE HNT
    go_enter Try.func26, Try.ntmps26
    go_wp2_with fail
    rw [← hW]
    refine (unhide hrd).mono ?_
    rintro e w1 ⟨rfl, hb1⟩
    rw [hv]
    have z1 := hb1.size
    have d3 : w1.cell? ⟨w.heap.size, 3, none⟩ = some (.slice At nt ct) := (hb1.cell (p := ⟨w.heap.size, 3, none⟩) (by show w.heap.size < _; omega)).trans c3
    have hB1 := hb0.trans (hb1.mono (by omega))
    clear hv hrd hW c0 c1 c2 c3 bx hb1
    go_wp2_with fail
    go_loopw [7, 19] (fun v i wr => ∃ j : Nat, j ≤ nt ∧ i = .int .i64 j ∧ wr.ownsRow w.heap.size 3 1 v j (((ts.map fun t => valAt t.l (leafOf t.l r)).take j).map (Value.int .i64)) ∧ Below w.heap.size w wr) (fun _ i _ => nt - (Lib.intOf i).toNat)
    case atStart => exact ⟨0, Nat.zero_le _, rfl, World.ownsRow_nil _ _ _ _, hB1⟩
    case round =>
      obtain ⟨j, hj, rfl, hown, hbel⟩ := hrel
      have hsz := hbel.size
      by_cases hlt : j < nt
      · obtain ⟨b, o, t, rfl, _, hx, hcx, hok⟩ := (htr.below hbel).get hlt
        have hRt := unhide HTR t (List.mem_of_getElem? hx)
        have hln := hok.reads.len
        obtain ⟨n, hn, _, hn1, hn2⟩ := leaf_in (r := r) hRt
        have hp := hRt.pos
        have hmost := hRt.most
        have hlf : leafOf t.l r < t.n := by rw [← hln]; exact (List.getElem?_eq_some_iff.1 hn).1
        have HX : Hid ((ts.map fun t => valAt t.l (leafOf t.l r)).take (j + 1) = (ts.map fun t => valAt t.l (leafOf t.l r)).take j ++ [n.v]) := hide (take_next (by rw [List.getElem?_map, hx]; simp [valAt, hn]))
        have hwk := hide (walk_any t.A C t.n t.c k q t.l r wr (hok.reads.more hsz) ((hr.below hbel).more hsz) (by omega) (by omega) h8 hRt.behind hRt.asks)
        obtain ⟨i, hi⟩ : ∃ i, i = leafOf t.l r := ⟨_, rfl⟩
        rw [← hi] at hlf hn hwk
        have hrr := hok.reads
        obtain ⟨tA, tn, tc, tl⟩ := t
        dsimp only at hcx hln hlf hn hwk hrr HX hi
        clear hi hx hok hRt hp hmost hln
        go_wp2_with fail
        refine (unhide hwk).mono ?_
        rintro e w2 ⟨rfl, hb2⟩
        clear hwk
        obtain ⟨b5, o5, n', rfl, _, hn', _, _, _, _, _, g5⟩ := (hrr.below (hb2.mono hsz)).get hlf
        rw [hn] at hn'
        injection hn' with hn'
        subst hn'
        have hown2 := own_below hown hb2
        have hs2 := Nat.le_trans hsz hb2.size
        obtain ⟨x, hxe⟩ : ∃ x, x = n.v := ⟨_, rfl⟩
        rw [← hxe] at g5 hn1 hn2 HX
        have hbel2 := hbel.trans (hb2.mono hsz)
        clear hn hrr hown hxe
        go_wp2_with (at_builtin; refine app_one elem_int (.tmp 23) (.tmp 31) [.int .i64 x] rfl rfl rfl hown2 rfl rfl rfl (ints_oneCell .i64 [x]) (by omega) hs2 ?_; intro v' w3 hown3 hb3 _ _)
        go_wp2_with fail
        go_roundw
        case rel => exact ⟨j + 1, by omega, by go_num, by rw [unhide HX, List.map_append]; exact hown3, hbel2.trans hb3⟩
        case measure => simp [Lib.intOf]; omega
      · obtain rfl : j = nt := by omega
        rw [List.take_of_length_le (by rw [List.length_map, unhide HNT]; exact Nat.le_refl _), ← unhide HE, ← unhide HR] at hown
        have HL : Hid (j = (eachR ⟨f, way, Aw, nw, cw, ws, At, j, ct, ts⟩ r).length) := hide (by rw [unhide HR, unhide HE, List.length_map, unhide HNT])
        go_wp2_with fail
        go_ret2
        refine ⟨_, by rw [unhide HV]; rfl, ?_, hbel⟩
        unfold IOwn
        rw [← unhide HL]
        exact hown
  · have hv := errV_1 h0
    have HV := hide hv
    have HR : Hid (eachR g r = []) := hide (by unfold eachR; rw [if_neg h0])
    obtain ⟨E, hE⟩ : ∃ E, E = standE g r := ⟨_, rfl⟩
    rw [← hE] at hrd hv HV
    have HEE := hide hE
    clear hE h0
    obtain ⟨f, way, Aw, nw, cw, ws, At, nt, ct, ts⟩ := g
    simp only [Gv.val] at hrd ⊢
    dsimp only at hW bx c0 c1 c2 c3
    go_enter Try.func26, Try.ntmps26
    go_wp2_with fail
    rw [← hW]
    refine (unhide hrd).mono ?_
    rintro e w1 ⟨rfl, hb1⟩
    rw [hv]
    clear hv hrd
    go_wp2_with fail
    go_ret2
    exact ⟨_, by rw [← unhide HEE, unhide HV]; rfl, by rw [unhide HR]; exact IOwn.nil_ _ _, hb0.trans (hb1.mono (by omega))⟩
end Go.Proofs.Ytopncifebldklaa
/- grove.Eval, Between, Bounds: contracts. Conditions: arguments read as lists. -/
namespace Go.Proofs.Ytopncifebldklaa
set_option linter.unusedVariables false
set_option linter.unusedSimpArgs false
open Go.RowKit

theorem eachV_in {g : Gv} {r : List Int} (h : standE g r = 0) : ∀ x ∈ eachV g r, -1000000 ≤ x ∧ x ≤ 1000000 := by
  obtain ⟨hG, _, hl⟩ := standE_0 h
  intro x hx
  obtain ⟨t, ht, rfl⟩ := List.mem_map.1 hx
  obtain ⟨n, hn, _, h1, h2⟩ := leaf_in (r := r) (right_of (hG.trees t ht))
  simp only [valAt, hn]
  exact ⟨h1, h2⟩
theorem eachV_len (g : Gv) (r : List Int) : (eachV g r).length = g.ts.length := by simp [eachV]

set_option maxRecDepth 100000 in
set_option maxHeartbeats 1000000 in
theorem geval_any (g : Gv) (C : Option Addr) (k q : Nat) (r : List Int) (w : World) (hg : GReads w w.heap.size g) (hr : IReads w w.heap.size C k r) (hk : k ≤ maxLen) :
    Calls Try.prog 9 #[g.val, .slice C k q] w fun e w' => e = .returned (.tuple #[.int .i64 (gevalV g r), errV (standE g r)]) ∧ Below w.heap.size w w' := by
  obtain ⟨W, hW, bx, hWs, hb0⟩ := gbox w g.f g.way g.Aw g.nw g.cw g.At g.nt g.ct
  have hrd := hide (each_any g C k q r W ((hg.below hb0).more (by omega)) ((hr.below hb0).more (by omega)) hk)
  have c0 := bx.cell 0
  have c1 := bx.cell 1
  have c2 := bx.cell 2
  have c3 := bx.cell 3
  simp at c0 c1 c2 c3
  by_cases h0 : standE g r = 0
  · have hv := errV_0 h0
    have HV := hide hv
    have HR : Hid (eachR g r = eachV g r) := hide (by unfold eachR; rw [if_pos h0])
    have HE : Hid (gevalV g r = togV g.way g.ws (eachV g r)) := hide (by unfold gevalV; rw [if_pos h0])
    have hin := hide (eachV_in h0)
    obtain ⟨hG, _, _⟩ := standE_0 h0
    have hws := hide hG.weights
    have hnw := hg.ws.len
    have hel : (eachV g r).length = g.nw := by rw [eachV_len, ← hG.wlen, hnw]
    have h12 : g.nw ≤ 12 := by have := hG.most; have := hG.wlen; omega
    have hpos : 0 < g.nw := by have := hG.pos; have := hG.wlen; omega
    have HEL := hide hel
    have hwr := hg.ws
    have hcon : Hid (∀ (v : Value) (w1 : World), IOwn w1 W.heap.size v (eachV g r) → Below w.heap.size w w1 → Calls Try.prog 27 #[.int .i64 g.way, .slice g.Aw g.nw g.cw, v] w1 fun e w' => e = .returned (.int .i64 (gevalV g r)) ∧ Below w1.heap.size w1 w') := hide (fun v w1 ho hb => by
      obtain ⟨A, c, rfl, hrr, _, _, _⟩ := ho.slice_
      rw [unhide HE]
      rw [hel] at hrr ⊢
      exact tog_any g.way g.Aw A g.nw g.cw g.nw c g.ws (eachV g r) w1 ((hwr.below hb).more hb.size) hrr rfl h12 hpos (unhide hws) (unhide hin))
    clear hG hel hnw h0 hg hwr hws hin
    obtain ⟨f, way, Aw, nw, cw, ws, At, nt, ct, ts⟩ := g
    simp only [Gv.val] at hrd ⊢
    dsimp only at hW bx c0 c1 c2 c3 hcon h12 hpos
    go_enter Try.func9, Try.ntmps9
    go_wp2_with fail
    rw [← hW]
    refine (unhide hrd).mono ?_
    rintro e w1 ⟨v, rfl, hown, hb1⟩
    rw [hv]
    rw [unhide HR] at hown
    have z1 := hb1.size
    have d1 : w1.cell? ⟨w.heap.size, 1, none⟩ = some (.int .i64 way) := (hb1.cell (p := ⟨w.heap.size, 1, none⟩) (by show w.heap.size < _; omega)).trans c1
    have d2 : w1.cell? ⟨w.heap.size, 2, none⟩ = some (.slice Aw nw cw) := (hb1.cell (p := ⟨w.heap.size, 2, none⟩) (by show w.heap.size < _; omega)).trans c2
    have hB1 := hb0.trans (hb1.mono (by omega))
    have hc := hide (unhide hcon v w1 hown hB1)
    clear hv hrd hW c0 c1 c2 c3 bx hb1 hown hcon
    go_wp2_with fail
    refine (unhide hc).mono ?_
    rintro e w2 ⟨rfl, hb2⟩
    have hB2 := hB1.trans (hb2.mono hB1.size)
    go_wp2_with fail
    go_ret2
    exact ⟨by rw [unhide HV]; rfl, hB2⟩
  · have hv := errV_1 h0
    have HV := hide hv
    have HE : Hid (gevalV g r = 0) := hide (by unfold gevalV; rw [if_neg h0])
    obtain ⟨E, hE⟩ : ∃ E, E = standE g r := ⟨_, rfl⟩
    unfold EachPost at hrd
    rw [← hE] at hrd hv HV ⊢
    have HEE := hide hE
    clear hE h0
    rw [unhide HE]
    obtain ⟨f, way, Aw, nw, cw, ws, At, nt, ct, ts⟩ := g
    simp only [Gv.val] at hrd ⊢
    dsimp only at hW bx c0 c1 c2 c3
    go_enter Try.func9, Try.ntmps9
    go_wp2_with fail
    rw [← hW]
    refine (unhide hrd).mono ?_
    rintro e w1 ⟨v, rfl, _, hb1⟩
    rw [hv]
    clear hv hrd
    go_wp2_with fail
    go_ret2
    exact ⟨by rw [unhide HV]; rfl, hb0.trans (hb1.mono (by omega))⟩

theorem maxR_any (A : Option Addr) (n c B : Nat) (l : List Int) (w : World) (hr : IReads w B A n l) (hpos : 0 < n) (hn : n ≤ maxLen) : Calls Try.prog 45 #[.slice A n c] w fun e w' => e = .returned (.int .i64 (Lib.maxOf l)) ∧ w = w' := by
  have hl := hr.len
  obtain ⟨b, off, rfl, _, hc⟩ := Reads.spot hr hpos (by omega)
  have := Try.slices_Max_int b off n c l w hpos (by omega) (by unfold maxLen at hn; omega) (fun j hj => hc j _ (by rw [List.getElem?_map, List.getElem?_eq_getElem hj, List.getD_eq_getElem?_getD, List.getElem?_eq_getElem hj]; rfl))
  refine this.mono ?_
  rintro e w' ⟨rfl, rfl⟩
  exact ⟨by rw [List.take_of_length_le (by omega)], rfl⟩
theorem minR_any (A : Option Addr) (n c B : Nat) (l : List Int) (w : World) (hr : IReads w B A n l) (hpos : 0 < n) (hn : n ≤ maxLen) : Calls Try.prog 50 #[.slice A n c] w fun e w' => e = .returned (.int .i64 (Lib.minOf l)) ∧ w = w' := by
  have hl := hr.len
  obtain ⟨b, off, rfl, _, hc⟩ := Reads.spot hr hpos (by omega)
  have := Try.slices_Min_int b off n c l w hpos (by omega) (by unfold maxLen at hn; omega) (fun j hj => hc j _ (by rw [List.getElem?_map, List.getElem?_eq_getElem hj, List.getD_eq_getElem?_getD, List.getElem?_eq_getElem hj]; rfl))
  refine this.mono ?_
  rintro e w' ⟨rfl, rfl⟩
  exact ⟨by rw [List.take_of_length_le (by omega)], rfl⟩

/-- between what a grove comes, of each tree's least and greatest -/
noncomputable def betwV (way : Int) (ws least most : List Int) : Int × Int := if way = 3 then (Lib.minOf least, Lib.maxOf most) else (togV way ws least, togV way ws most)
end Go.Proofs.Ytopncifebldklaa
/- Plain facts on bits, and the numbers of chapter 14 as lists of bytes. Conditions: as each lemma names. -/
namespace Go.Proofs.Ytopncifebldklaa
set_option linter.unusedVariables false
set_option linter.unusedSimpArgs false
open Go.RowKit

/-- a number as one that is not below 0 -/
def zig (z : Int) : Nat := if 0 ≤ z then (2 * z).toNat else (-2 * z - 1).toNat
def unzig (g : Nat) : Int := if g % 2 = 0 then ((g / 2 : Nat) : Int) else -((g / 2 : Nat) : Int) - 1
theorem unzig_zig (z : Int) : unzig (zig z) = z := by
  unfold unzig zig
  by_cases h : 0 ≤ z
  · rw [if_pos h, if_pos (by omega)]; omega
  · rw [if_neg h, if_neg (by omega)]; omega
theorem zig_lt {z : Int} (h1 : -9223372036854775808 ≤ z) (h2 : z < 9223372036854775808) : zig z < 18446744073709551616 := by
  unfold zig; split <;> omega

theorem xor_ones (a : Nat) (ha : a < 18446744073709551616) : a ^^^ 18446744073709551615 = 18446744073709551615 - a := by
  have h := congrArg BitVec.toNat (BitVec.xor_allOnes (x := BitVec.ofNat 64 a))
  rw [BitVec.toNat_xor, BitVec.toNat_not, BitVec.toNat_allOnes, BitVec.toNat_ofNat] at h
  rw [Nat.mod_eq_of_lt (by omega)] at h
  exact h
theorem zig_pos (z : Int) (h1 : 0 ≤ z) (h2 : z < 9223372036854775808) : bits BinOp.xor IntKind.u64 (z * 2) (z / 9223372036854775808) = ((zig z : Nat) : Int) := by
  have e : z / 9223372036854775808 = 0 := by omega
  rw [e, u64_xor _ _ (by omega) (by omega) (by omega) (by omega)]
  unfold zig
  rw [if_pos h1]
  simp
  omega
theorem zig_neg (z : Int) (h1 : -9223372036854775808 ≤ z) (h2 : z < 0) : bits BinOp.xor IntKind.u64 (IntKind.u64.wrap (IntKind.u64.wrap z * 2)) (IntKind.u64.wrap (z / 9223372036854775808)) = ((zig z : Nat) : Int) := by
  have e0 : z / 9223372036854775808 = -1 := by omega
  have e1 : IntKind.u64.wrap (-1) = 18446744073709551615 := by rw [IntKind.wrap_u64]; decide
  have e2 : IntKind.u64.wrap (IntKind.u64.wrap z * 2) = 2 * z + 18446744073709551616 := by rw [IntKind.wrap_u64, IntKind.wrap_u64]; omega
  rw [e0, e1, e2, u64_xor _ _ (by omega) (by omega) (by omega) (by omega)]
  have e3 : (18446744073709551615 : Int).toNat = 18446744073709551615 := rfl
  rw [e3, xor_ones _ (by omega)]
  unfold zig
  rw [if_neg (by omega)]
  omega
theorem or128 : ∀ v : Fin 256, (v.val ||| 128) = v.val % 128 + 128 := by decide +kernel
theorem byte_more (x : Nat) : bits BinOp.or IntKind.u8 ((x : Int) % 256) 128 = ((x % 128 + 128 : Nat) : Int) := by
  rw [u8_or _ _ (by omega) (by omega) (by omega) (by omega)]
  have e : ((x : Int) % 256).toNat = x % 256 := by omega
  have := or128 ⟨x % 256, by omega⟩
  simp only at this
  rw [e, show (128 : Int).toNat = 128 from rfl, this]
  omega
theorem byte_low (y : Nat) (h : y < 256) : bits BinOp.and IntKind.u8 (y : Int) 127 = ((y % 128 : Nat) : Int) := by
  rw [u8_and _ _ (by omega) (by omega) (by omega) (by omega)]
  have : ∀ v : Fin 256, (v.val &&& 127) = v.val % 128 := by decide +kernel
  have := this ⟨y, h⟩
  simp only at this
  rw [Int.toNat_natCast, show (127 : Int).toNat = 127 from rfl, this]
theorem or_add (x y k : Nat) (hx : x < 2 ^ k) : x ||| (y * 2 ^ k) = x + y * 2 ^ k := by
  have h := Nat.two_pow_add_eq_or_of_lt hx y
  rw [Nat.or_comm, Nat.mul_comm, ← h]
  omega
/-- one byte more of a number that is read -/
theorem read_more (x y k : Nat) (hx : x < 2 ^ (7 * k)) (hy : y < 256) (hs : x + y % 128 * 2 ^ (7 * k) < 18446744073709551616) :
    bits BinOp.or IntKind.u64 (x : Int) (IntKind.u64.wrap (IntKind.u64.wrap (bits BinOp.and IntKind.u8 (y : Int) 127) * 2 ^ (7 * k))) = ((x + y % 128 * 2 ^ (7 * k) : Nat) : Int) := by
  have e1 : IntKind.u64.wrap (((y % 128 : Nat) : Int)) = ((y % 128 : Nat) : Int) := by rw [IntKind.wrap_u64]; omega
  have e2 : (((y % 128 : Nat) : Int) * 2 ^ (7 * k)) = ((y % 128 * 2 ^ (7 * k) : Nat) : Int) := by rw [Int.natCast_mul, Int.natCast_pow]; rfl
  rw [byte_low y hy, e1, e2]
  generalize hp : y % 128 * 2 ^ (7 * k) = q at hs
  have e3 : IntKind.u64.wrap ((q : Nat) : Int) = (q : Int) := by rw [IntKind.wrap_u64]; omega
  rw [e3, u64_or_nat _ _ (by omega) (by omega), ← hp, or_add _ _ _ hx]
theorem ofInt_i64 (a : Nat) (ha : a < 9223372036854775808) : (BitVec.ofInt 64 (a : Int)).toNat = a := by
  rw [BitVec.ofInt_natCast, BitVec.toNat_ofNat]; exact Nat.mod_eq_of_lt (by omega)
theorem i64_not (a : Nat) (ha : a < 9223372036854775808) : bits BinOp.xor IntKind.i64 (a : Int) (-1) = -(a : Int) - 1 := by
  show IntKind.i64.wrap ((BitVec.ofInt 64 (a : Int) ^^^ BitVec.ofInt 64 (-1 : Int)).toNat : Int) = _
  have e : BitVec.ofInt 64 (-1 : Int) = BitVec.allOnes 64 := by decide
  rw [e, BitVec.xor_allOnes, BitVec.toNat_not, ofInt_i64 a ha, IntKind.wrap_i64]
  omega
theorem i64_same (a : Nat) (ha : a < 9223372036854775808) : bits BinOp.xor IntKind.i64 (a : Int) 0 = (a : Int) := by
  show IntKind.i64.wrap ((BitVec.ofInt 64 (a : Int) ^^^ BitVec.ofInt 64 (0 : Int)).toNat : Int) = _
  have e : BitVec.ofInt 64 (0 : Int) = 0#64 := by decide
  rw [e, BitVec.xor_zero, ofInt_i64 a ha, IntKind.wrap_i64]
  omega
theorem read_end (g : Nat) (hg : g < 18446744073709551616) : bits BinOp.xor IntKind.i64 (wrap64 ((g : Int) / 2)) (wrap64 (-wrap64 (bits BinOp.and IntKind.u64 (g : Int) 1))) = unzig g := by
  have e1 : bits BinOp.and IntKind.u64 (g : Int) 1 = ((g % 2 : Nat) : Int) := by
    have := u64_and_nat g 1 hg (by omega)
    rw [Nat.and_one_is_mod] at this
    exact this
  have e2 : wrap64 ((g : Int) / 2) = ((g / 2 : Nat) : Int) := by unfold wrap64; omega
  rw [e1, e2]
  unfold unzig
  by_cases h : g % 2 = 0
  · have e3 : wrap64 (-wrap64 ((0 : Nat) : Int)) = 0 := by unfold wrap64; omega
    rw [if_pos h, h, e3]
    exact i64_same _ (by omega)
  · have h1 : g % 2 = 1 := by omega
    have e3 : wrap64 (-wrap64 ((1 : Nat) : Int)) = -1 := by unfold wrap64; omega
    rw [if_neg h, h1, e3]
    exact i64_not _ (by omega)

/-- a number as bytes, seven bits a byte -/
def encN : Nat → Nat → List Int
  | 0, _ => []
  | k + 1, x => if x < 128 then [(x : Int)] else ((x % 128 + 128 : Nat) : Int) :: encN k (x / 128)
def enc (z : Int) : List Int := encN 10 (zig z)
theorem encN_len : ∀ (k x : Nat), (encN k x).length ≤ k := by
  intro k
  induction k with
  | zero => intro x; simp [encN]
  | succ k ih => intro x; rw [encN]; split; · simp
                 · rw [List.length_cons]; have := ih (x / 128); omega
theorem encN_pos (k x : Nat) : 0 < (encN (k + 1) x).length := by rw [encN]; split <;> simp
theorem encN_low {k x : Nat} (hk : 0 < k) (h : x < 128) : encN k x = [(x : Int)] := by
  obtain ⟨j, rfl⟩ : ∃ j, k = j + 1 := ⟨k - 1, by omega⟩
  rw [encN, if_pos h]
theorem encN_high {k x : Nat} (h : 128 ≤ x) : encN (k + 1) x = ((x % 128 + 128 : Nat) : Int) :: encN k (x / 128) := by rw [encN, if_neg (by omega)]

/-- the number that bytes begin with, how many they are, what is wrong; from byte i on, x so far -/
def getFrom (i x : Nat) : List Int → Int × Nat × Int
  | [] => (0, 0, 8)
  | c :: r => if (i = 9 ∧ 1 < c) ∨ (0 < i ∧ c = 0) then (0, 0, 2) else
    if c < 128 then (unzig (x + c.toNat % 128 * 2 ^ (7 * i)), i + 1, 0) else getFrom (i + 1) (x + c.toNat % 128 * 2 ^ (7 * i)) r
def getV (l : List Int) : Int × Nat × Int := getFrom 0 0 l
/-- what was written is read -/
theorem get_enc : ∀ (k i x y : Nat) (r : List Int), i + k = 10 → y < 128 ^ k → (0 < i → 0 < y) → x + y * 2 ^ (7 * i) < 18446744073709551616 → getFrom i x (encN k y ++ r) = (unzig (x + y * 2 ^ (7 * i)), i + (encN k y).length, 0) := by
  intro k
  induction k with
  | zero => intro i x y r h1 h2 h3 h4; have : i = 10 := by omega
            subst this; simp at h2; subst h2; have := h3 (by omega); omega
  | succ k ih =>
    intro i x y r h1 h2 h3 h4
    by_cases hy : y < 128
    · rw [encN_low (by omega) hy, List.cons_append, getFrom, if_neg, if_pos (by omega)]
      · rw [Int.toNat_natCast, Nat.mod_eq_of_lt hy]; rfl
      · rintro (⟨rfl, h5⟩ | ⟨h5, h6⟩)
        · have : 2 ≤ y := by omega
          have : 2 * 2 ^ 63 ≤ y * 2 ^ (7 * 9) := Nat.mul_le_mul this (by decide)
          omega
        · have := h3 h5; omega
    · rw [encN_high (by omega), List.cons_append, getFrom, if_neg, if_neg (by omega)]
      · have e : ((y % 128 + 128 : Nat) : Int).toNat % 128 = y % 128 := by rw [Int.toNat_natCast]; omega
        have e2 : y * 2 ^ (7 * i) = y % 128 * 2 ^ (7 * i) + y / 128 * 2 ^ (7 * (i + 1)) := by
          rw [show 7 * (i + 1) = 7 * i + 7 by omega, Nat.pow_add, show (2 : Nat) ^ 7 = 128 from rfl, Nat.mul_comm (2 ^ (7 * i)) 128, ← Nat.mul_assoc, ← Nat.add_mul]
          congr 1
          omega
        rw [e, ih (i + 1) _ (y / 128) r (by omega) (Nat.div_lt_of_lt_mul (by rw [Nat.pow_succ] at h2; omega)) (fun _ => by omega) (by omega), List.length_cons, e2, Nat.add_assoc]
        congr 2
        omega
      · rintro (⟨rfl, _⟩ | ⟨_, h6⟩)
        · have : 128 * 2 ^ 63 ≤ y * 2 ^ (7 * 9) := Nat.mul_le_mul (by omega) (by decide)
          omega
        · omega
theorem get_back (z : Int) (h1 : -9223372036854775808 ≤ z) (h2 : z < 9223372036854775808) (r : List Int) : getV (enc z ++ r) = (z, (enc z).length, 0) := by
  have h := zig_lt h1 h2
  unfold getV enc
  rw [get_enc 10 0 0 (zig z) r rfl (Nat.lt_of_lt_of_le h (by decide)) (by omega) (by simpa using h)]
  rw [Nat.zero_add, Nat.zero_add, Nat.mul_zero, Nat.pow_zero, Nat.mul_one, unzig_zig]
end Go.Proofs.Ytopncifebldklaa
/- Chapter 14's numbers: code.add, slices.Clone of bytes, code.Num, code.Get. Conditions: as each lemma names. -/
namespace Go.Proofs.Ytopncifebldklaa
set_option linter.unusedVariables false
set_option linter.unusedSimpArgs false
open Go.RowKit

def BReads (w : World) (B : Nat) (A : Option Addr) (n : Nat) (l : List Int) : Prop := Reads w B 1 A n (l.map (Value.int .u8))
theorem BReads.len {w : World} {B n : Nat} {A : Option Addr} {l : List Int} (h : BReads w B A n l) : l.length = n := by have := h.1; simpa using this
theorem BReads.get {w : World} {B n : Nat} {A : Option Addr} {l : List Int} (h : BReads w B A n l) {k : Nat} (hk : k < n) :
    ∃ b off x, A = some ⟨b, off, none⟩ ∧ b < B ∧ l[k]? = some x ∧ w.cell? ⟨b, off + k, none⟩ = some (.int .u8 x) := by
  obtain ⟨b, off, rfl, hb, hc⟩ := Reads.spot h (by omega) (by omega)
  have hl : k < l.length := by rw [h.len]; exact hk
  exact ⟨b, off, l[k], rfl, hb, List.getElem?_eq_getElem hl, hc k _ (by simp [hl])⟩

/-- a row of bytes of the call's own, and what was put behind it -/
def AddPost (base n : Nat) (bs : List Int) (w : World) (e : Ending) (w' : World) : Prop :=
  ∃ v, e = .returned v ∧ w'.ownsRow base 5 1 v n (bs.map (Value.int .u8)) ∧ Below base w w'

theorem get_err {l : List Int} {k x : Nat} {y : Int} (h : l[k]? = some y) (hf : getFrom k x (l.drop k) = getV l) (he : (k = 9 ∧ 1 < y) ∨ (0 < k ∧ y = 0)) : getV l = (0, 0, 2) := by
  rw [← hf, drop_at h, getFrom, if_pos he]
theorem get_done {l : List Int} {k x : Nat} {y : Nat} (h : l[k]? = some (y : Int)) (hf : getFrom k x (l.drop k) = getV l) (he : ¬ ((k = 9 ∧ 1 < (y : Int)) ∨ (0 < k ∧ (y : Int) = 0))) (hy : y < 128) : getV l = (unzig (x + y % 128 * 2 ^ (7 * k)), k + 1, 0) := by
  rw [← hf, drop_at h, getFrom, if_neg he, if_pos (by omega), Int.toNat_natCast]
theorem get_next {l : List Int} {k x : Nat} {y : Nat} (h : l[k]? = some (y : Int)) (hf : getFrom k x (l.drop k) = getV l) (he : ¬ ((k = 9 ∧ 1 < (y : Int)) ∨ (0 < k ∧ (y : Int) = 0))) (hy : ¬ y < 128) : getFrom (k + 1) (x + y % 128 * 2 ^ (7 * k)) (l.drop (k + 1)) = getV l := by
  rw [← hf, drop_at h, getFrom, if_neg he, if_neg (by omega), Int.toNat_natCast]
theorem get_bound {k x y : Nat} (hk : k ≤ 9) (hx : x < 2 ^ (7 * k)) (hy : k = 9 → y ≤ 1) : x + y % 128 * 2 ^ (7 * k) < 18446744073709551616 := by
  have h : y % 128 * 2 ^ (7 * k) + 2 ^ (7 * k) = (y % 128 + 1) * 2 ^ (7 * k) := by rw [Nat.add_mul, Nat.one_mul]
  by_cases h9 : k = 9
  · subst h9
    have : y % 128 + 1 ≤ 2 := by have := hy rfl; omega
    have := Nat.mul_le_mul_right (2 ^ (7 * 9)) this
    have e : (2 : Nat) * 2 ^ (7 * 9) = 18446744073709551616 := by decide
    omega
  · have h8 : 2 ^ (7 * k) ≤ 2 ^ 56 := Nat.pow_le_pow_right (by omega) (by omega)
    have := Nat.mul_le_mul (show y % 128 + 1 ≤ 128 by omega) h8
    have e : (128 : Nat) * 2 ^ 56 = 9223372036854775808 := by decide
    omega
theorem get_small {k x y : Nat} (hx : x < 2 ^ (7 * k)) : x + y % 128 * 2 ^ (7 * k) < 2 ^ (7 * (k + 1)) := by
  have h : y % 128 * 2 ^ (7 * k) + 2 ^ (7 * k) = (y % 128 + 1) * 2 ^ (7 * k) := by rw [Nat.add_mul, Nat.one_mul]
  have := Nat.mul_le_mul_right (2 ^ (7 * k)) (show y % 128 + 1 ≤ 128 by omega)
  have e : 2 ^ (7 * (k + 1)) = 128 * 2 ^ (7 * k) := by rw [show 7 * (k + 1) = 7 * k + 7 by omega, Nat.pow_add, Nat.mul_comm]
  omega

end Go.Proofs.Ytopncifebldklaa
/- CodeRow: the walk of the law's function. Conditions: the argument reads as a list of ints. -/
namespace Go.Proofs.Ytopncifebldklaa
set_option linter.unusedVariables false
set_option linter.unusedSimpArgs false
open Go.RowKit

theorem own_base {w : World} {base base' : Nat} {e : TypeId} {size n : Nat} {v : Value} {xs : List Value} (h : w.ownsRow base e size v n xs) (hb : base' ≤ base) : w.ownsRow base' e size v n xs := by
  refine ⟨h.1, ?_⟩
  rcases h.2 with hn | ⟨g, cap, cur, rfl, hg, rest⟩
  · exact .inl hn
  · exact .inr ⟨g, cap, cur, rfl, Nat.le_trans hb hg, rest⟩
theorem own_slice2 {w : World} {base : Nat} {e : TypeId} {size n : Nat} {v : Value} {xs : List Value} (h : w.ownsRow base e size v n xs) : ∃ A c, v = .slice A n c ∧ Reads w w.heap.size size A n xs ∧ n ≤ maxLen ∧ n ≤ c ∧ (A = none → c = 0) ∧ (∀ a, A = some a → base ≤ a.block) := by
  rcases h.2 with ⟨rfl, rfl⟩ | ⟨g, cap, cur, rfl, hg, _, h1, h2, _⟩
  · exact ⟨none, 0, rfl, ⟨h.1, fun h0 => absurd h0 (by omega)⟩, Nat.zero_le _, Nat.le_refl _, fun _ => rfl, fun a e => by cases e⟩
  · exact ⟨_, _, rfl, Reads.of_own h, Nat.le_trans h1 h2, h1, fun e => (by cases e), fun a e => by injection e with e; subst e; exact hg⟩

def encs (l : List Int) : List Int := l.flatMap enc
theorem encs_next {l : List Int} {k : Nat} {x : Int} (h : l[k]? = some x) : encs (l.take (k + 1)) = encs (l.take k) ++ enc x := by
  unfold encs; rw [take_next h, List.flatMap_append]; simp
theorem enc_len (z : Int) : 1 ≤ (enc z).length ∧ (enc z).length ≤ 10 := ⟨encN_pos 9 _, encN_len 10 _⟩
theorem encs_len (l : List Int) : (encs l).length ≤ 10 * l.length := by
  induction l with
  | nil => simp [encs]
  | cons x r ih => unfold encs at *; rw [List.flatMap_cons, List.length_append, List.length_cons]; have := (enc_len x).2; omega
theorem encN_bytes : ∀ (k x : Nat), ∀ y ∈ encN k x, 0 ≤ y ∧ y < 256 := by
  intro k
  induction k with
  | zero => intro x y h; simp [encN] at h
  | succ k ih =>
    intro x y h
    rw [encN] at h
    split at h
    · simp at h; subst h; omega
    · rcases List.mem_cons.1 h with rfl | h
      · omega
      · exact ih _ y h
theorem encs_bytes (l : List Int) : ∀ y ∈ encs l, 0 ≤ y ∧ y < 256 := by
  intro y h
  unfold encs at h
  obtain ⟨z, _, hz⟩ := List.mem_flatMap.1 h
  exact encN_bytes _ _ y hz
theorem encs_drop {l : List Int} {k : Nat} {x : Int} (h : l[k]? = some x) : encs (l.drop k) = enc x ++ encs (l.drop (k + 1)) := by
  unfold encs; rw [drop_at h, List.flatMap_cons]
theorem getV4 : getV [4] = (2, 1, 0) := by decide

end Go.Proofs.Ytopncifebldklaa
/- Chapter 5's spans: path.Some, path.Any, path.Wide, path.Side, slices.Clone of spans. Conditions: as each lemma names. -/
namespace Go.Proofs.Ytopncifebldklaa
set_option linter.unusedVariables false
set_option linter.unusedSimpArgs false
open Go.RowKit

def someB (s : Sp) : Bool := decide (s.low ≤ s.high) || s.ab
def anyB (l : List Sp) : Bool := l.all someB

def badAtS : List Sp → Nat → Int
  | [], _ => -1
  | s :: r, k => if someB s then badAtS r (k + 1) else (k : Int)
theorem badAtS_any : ∀ (l : List Sp) (k : Nat), (badAtS l k < 0 ↔ anyB l = true) := by
  intro l
  induction l with
  | nil => intro k; simp [badAtS, anyB]
  | cons s r ih =>
    intro k
    rw [badAtS]
    by_cases h : someB s = true
    · rw [if_pos h, ih (k + 1)]; simp [anyB, h]
    · rw [if_neg h]; simp [anyB, h]
theorem badAtS_drop {l : List Sp} {k : Nat} {s : Sp} (h : l[k]? = some s) : badAtS (l.drop k) k = if someB s then badAtS (l.drop (k + 1)) (k + 1) else (k : Int) := by
  have : l.drop k = s :: l.drop (k + 1) := by
    obtain ⟨hk, e⟩ := List.getElem?_eq_some_iff.1 h
    rw [List.drop_eq_getElem_cons hk, e]
  rw [this, badAtS]

end Go.Proofs.Ytopncifebldklaa
/- Chapter 5: path.Wide, path.Side. Conditions: as each lemma names. -/
namespace Go.Proofs.Ytopncifebldklaa
set_option linter.unusedVariables false
set_option linter.unusedSimpArgs false
open Go.RowKit

def sideS (s : Sp) (c : Int) (less left : Bool) : Sp := if left then ⟨s.low, min s.high (c - 1), s.ab && (less == left)⟩ else ⟨max s.low c, s.high, s.ab && (less == left)⟩
def sideL (l : List Sp) (n : Nd) (left : Bool) : List Sp := match l[n.f.toNat]? with | none => l | some s => l.set n.f.toNat (sideS s n.c n.less left)

theorem SReads.set_ {w w' : World} {B n g o k : Nat} {l : List Sp} (h : SReads w B (some ⟨g, o, none⟩) n l) (hk : k < n) (s : Sp)
    (hsame : ∀ j, j ≠ k * 3 → j ≠ k * 3 + 1 → j ≠ k * 3 + 2 → w'.cell? ⟨g, o + j, none⟩ = w.cell? ⟨g, o + j, none⟩)
    (c0 : w'.cell? ⟨g, o + k * 3, none⟩ = some (.int .i64 s.low)) (c1 : w'.cell? ⟨g, o + (k * 3 + 1), none⟩ = some (.int .i64 s.high)) (c2 : w'.cell? ⟨g, o + (k * 3 + 2), none⟩ = some (.bool s.ab)) :
    SReads w' B (some ⟨g, o, none⟩) n (l.set k s) := by
  have hl := h.len
  obtain ⟨_, _, e, hb, hc⟩ := Reads.spot h (by omega) (by omega)
  cases e
  refine ⟨by rw [flatMap_len Sp.cells 3 (fun _ => rfl), List.length_set, hl], fun _ => ⟨_, rfl, hb, fun j u hu => ?_⟩⟩
  have hj : j < n * 3 := by
    have := (List.getElem?_eq_some_iff.1 hu).1
    rw [flatMap_len Sp.cells 3 (fun _ => rfl), List.length_set, hl] at this
    exact this
  obtain ⟨k', r, hr, rfl⟩ : ∃ k' r, r < 3 ∧ j = k' * 3 + r := ⟨j / 3, j % 3, Nat.mod_lt _ (by omega), by omega⟩
  have hk' : k' < n := by omega
  have hadd : (⟨g, o, none⟩ : Addr).add (k' * 3 + r) = ⟨g, o + (k' * 3 + r), none⟩ := by
    unfold Addr.add
    split
    · rename_i e; rw [e]; rfl
    · rfl
  rw [hadd]
  by_cases he : k' = k
  · subst he
    rw [flatMap_at Sp.cells 3 (fun _ => rfl) (l.set k' s) k' r s (by rw [List.getElem?_set_self (by omega)]) hr] at hu
    match r, hr with
    | 0, _ => simp [Sp.cells] at hu; subst hu; exact c0
    | 1, _ => simp [Sp.cells] at hu; subst hu; exact c1
    | 2, _ => simp [Sp.cells] at hu; subst hu; exact c2
  · have hs : l[k']? = some l[k'] := List.getElem?_eq_getElem (by omega)
    rw [flatMap_at Sp.cells 3 (fun _ => rfl) (l.set k s) k' r l[k'] (by rw [List.getElem?_set_ne (by omega)]; exact hs) hr] at hu
    rw [hsame _ (by omega) (by omega) (by omega)]
    refine hc _ u ?_
    rw [flatMap_at Sp.cells 3 (fun _ => rfl) l k' r l[k'] hs hr]
    exact hu

theorem sp_cells_one (l : List Sp) : ∀ u ∈ l.flatMap Sp.cells, u.oneCell' = true := by
  intro u hu
  obtain ⟨s, _, h⟩ := List.mem_flatMap.1 hu
  simp [Sp.cells] at h
  rcases h with rfl | rfl | rfl <;> rfl

theorem two_other {w : World} {g a b : Nat} {u v : Value} {j : Nat} (h1 : j ≠ a) (h2 : j ≠ b) : ((w.setCell ⟨g, a, none⟩ u).setCell ⟨g, b, none⟩ v).drew.cell? ⟨g, j, none⟩ = w.cell? ⟨g, j, none⟩ := by
  show ((w.setCell ⟨g, a, none⟩ u).setCell ⟨g, b, none⟩ v).cell? ⟨g, j, none⟩ = _
  rw [World.cell?_setCell_other _ _ _ _ (by intro e; injection e; omega), World.cell?_setCell_other _ _ _ _ (by intro e; injection e; omega)]
theorem two_first {w : World} {g a b : Nat} {u v x : Value} (h : a ≠ b) (hx : w.cell? ⟨g, a, none⟩ = some x) : ((w.setCell ⟨g, a, none⟩ u).setCell ⟨g, b, none⟩ v).drew.cell? ⟨g, a, none⟩ = some u := by
  show ((w.setCell ⟨g, a, none⟩ u).setCell ⟨g, b, none⟩ v).cell? ⟨g, a, none⟩ = _
  rw [World.cell?_setCell_other _ _ _ _ (by intro e; injection e; omega)]
  exact World.cell?_setCell_same' _ _ _ (by rw [hx]; rfl)
theorem two_last {w : World} {g a b : Nat} {u v x : Value} (h : b ≠ a) (hx : w.cell? ⟨g, b, none⟩ = some x) : ((w.setCell ⟨g, a, none⟩ u).setCell ⟨g, b, none⟩ v).drew.cell? ⟨g, b, none⟩ = some v := by
  show ((w.setCell ⟨g, a, none⟩ u).setCell ⟨g, b, none⟩ v).cell? ⟨g, b, none⟩ = _
  exact World.cell?_setCell_same' _ _ _ (by rw [World.cell?_setCell_other _ _ _ _ (by intro e; injection e; omega), hx]; rfl)

end Go.Proofs.Ytopncifebldklaa
