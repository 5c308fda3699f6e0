/- Part 26 of what LawFlatTells needs: GroveOps2. Conditions: as each lemma names. -/
import Derived.Test.YtcneacooedefjaaDoorPkFlatTells25
/- grove.Eval, Between, Bounds: contracts. Conditions: arguments read as lists. -/
namespace Go.Proofs.YtcneacooedefjaaDoor
set_option linter.unusedVariables false
set_option linter.unusedSimpArgs false
open Go.RowKit

theorem eachV_in {g : Gv} {r : List Int} (h : standE g r = 0) : ∀ x ∈ eachV g r, -1000000 ≤ x ∧ x ≤ 1000000 := by
  obtain ⟨hG, _, hl⟩ := standE_0 h
  intro x hx
  obtain ⟨t, ht, rfl⟩ := List.mem_map.1 hx
  obtain ⟨n, hn, _, h1, h2⟩ := leaf_in (r := r) (right_of (hG.trees t ht))
  simp only [valAt, hn]
  exact ⟨h1, h2⟩
theorem eachV_len (g : Gv) (r : List Int) : (eachV g r).length = g.ts.length := by simp [eachV]

set_option maxRecDepth 100000 in
set_option maxHeartbeats 1000000 in
theorem geval_any (g : Gv) (C : Option Addr) (k q : Nat) (r : List Int) (w : World) (hg : GReads w w.heap.size g) (hr : IReads w w.heap.size C k r) (hk : k ≤ maxLen) :
    Calls Tryd.prog 15 #[g.val, .slice C k q] w fun e w' => e = .returned (.tuple #[.int .i64 (gevalV g r), errV (standE g r)]) ∧ Below w.heap.size w w' := by
  obtain ⟨W, hW, bx, hWs, hb0⟩ := gbox w g.f g.way g.Aw g.nw g.cw g.At g.nt g.ct
  have hrd := hide (each_any g C k q r W ((hg.below hb0).more (by omega)) ((hr.below hb0).more (by omega)) hk)
  have c0 := bx.cell 0
  have c1 := bx.cell 1
  have c2 := bx.cell 2
  have c3 := bx.cell 3
  simp at c0 c1 c2 c3
  by_cases h0 : standE g r = 0
  · have hv := errV_0 h0
    have HV := hide hv
    have HR : Hid (eachR g r = eachV g r) := hide (by unfold eachR; rw [if_pos h0])
    have HE : Hid (gevalV g r = togV g.way g.ws (eachV g r)) := hide (by unfold gevalV; rw [if_pos h0])
    have hin := hide (eachV_in h0)
    obtain ⟨hG, _, _⟩ := standE_0 h0
    have hws := hide hG.weights
    have hnw := hg.ws.len
    have hel : (eachV g r).length = g.nw := by rw [eachV_len, ← hG.wlen, hnw]
    have h12 : g.nw ≤ 12 := by have := hG.most; have := hG.wlen; omega
    have hpos : 0 < g.nw := by have := hG.pos; have := hG.wlen; omega
    have HEL := hide hel
    have hwr := hg.ws
    have hcon : Hid (∀ (v : Value) (w1 : World), IOwn w1 W.heap.size v (eachV g r) → Below w.heap.size w w1 → Calls Tryd.prog 30 #[.int .i64 g.way, .slice g.Aw g.nw g.cw, v] w1 fun e w' => e = .returned (.int .i64 (gevalV g r)) ∧ Below w1.heap.size w1 w') := hide (fun v w1 ho hb => by
      obtain ⟨A, c, rfl, hrr, _, _, _⟩ := ho.slice_
      rw [unhide HE]
      rw [hel] at hrr ⊢
      exact tog_any g.way g.Aw A g.nw g.cw g.nw c g.ws (eachV g r) w1 ((hwr.below hb).more hb.size) hrr rfl h12 hpos (unhide hws) (unhide hin))
    clear hG hel hnw h0 hg hwr hws hin
    obtain ⟨f, way, Aw, nw, cw, ws, At, nt, ct, ts⟩ := g
    simp only [Gv.val] at hrd ⊢
    dsimp only at hW bx c0 c1 c2 c3 hcon h12 hpos
    go_enter Tryd.func15, Tryd.ntmps15
    go_wp2_with fail
    rw [← hW]
    refine (unhide hrd).mono ?_
    rintro e w1 ⟨v, rfl, hown, hb1⟩
    rw [hv]
    rw [unhide HR] at hown
    have z1 := hb1.size
    have d1 : w1.cell? ⟨w.heap.size, 1, none⟩ = some (.int .i64 way) := (hb1.cell (p := ⟨w.heap.size, 1, none⟩) (by show w.heap.size < _; omega)).trans c1
    have d2 : w1.cell? ⟨w.heap.size, 2, none⟩ = some (.slice Aw nw cw) := (hb1.cell (p := ⟨w.heap.size, 2, none⟩) (by show w.heap.size < _; omega)).trans c2
    have hB1 := hb0.trans (hb1.mono (by omega))
    have hc := hide (unhide hcon v w1 hown hB1)
    clear hv hrd hW c0 c1 c2 c3 bx hb1 hown hcon
    go_wp2_with fail
    refine (unhide hc).mono ?_
    rintro e w2 ⟨rfl, hb2⟩
    have hB2 := hB1.trans (hb2.mono hB1.size)
    go_wp2_with fail
    go_ret2
    exact ⟨by rw [unhide HV]; rfl, hB2⟩
  · have hv := errV_1 h0
    have HV := hide hv
    have HE : Hid (gevalV g r = 0) := hide (by unfold gevalV; rw [if_neg h0])
    obtain ⟨E, hE⟩ : ∃ E, E = standE g r := ⟨_, rfl⟩
    unfold EachPost at hrd
    rw [← hE] at hrd hv HV ⊢
    have HEE := hide hE
    clear hE h0
    rw [unhide HE]
    obtain ⟨f, way, Aw, nw, cw, ws, At, nt, ct, ts⟩ := g
    simp only [Gv.val] at hrd ⊢
    dsimp only at hW bx c0 c1 c2 c3
    go_enter Tryd.func15, Tryd.ntmps15
    go_wp2_with fail
    rw [← hW]
    refine (unhide hrd).mono ?_
    rintro e w1 ⟨v, rfl, _, hb1⟩
    rw [hv]
    clear hv hrd
    go_wp2_with fail
    go_ret2
    exact ⟨by rw [unhide HV]; rfl, hb0.trans (hb1.mono (by omega))⟩

theorem maxR_any (A : Option Addr) (n c B : Nat) (l : List Int) (w : World) (hr : IReads w B A n l) (hpos : 0 < n) (hn : n ≤ maxLen) : Calls Tryd.prog 47 #[.slice A n c] w fun e w' => e = .returned (.int .i64 (Lib.maxOf l)) ∧ w = w' := by
  have hl := hr.len
  obtain ⟨b, off, rfl, _, hc⟩ := Reads.spot hr hpos (by omega)
  have := Tryd.slices_Max_int b off n c l w hpos (by omega) (by unfold maxLen at hn; omega) (fun j hj => hc j _ (by rw [List.getElem?_map, List.getElem?_eq_getElem hj, List.getD_eq_getElem?_getD, List.getElem?_eq_getElem hj]; rfl))
  refine this.mono ?_
  rintro e w' ⟨rfl, rfl⟩
  exact ⟨by rw [List.take_of_length_le (by omega)], rfl⟩
theorem minR_any (A : Option Addr) (n c B : Nat) (l : List Int) (w : World) (hr : IReads w B A n l) (hpos : 0 < n) (hn : n ≤ maxLen) : Calls Tryd.prog 52 #[.slice A n c] w fun e w' => e = .returned (.int .i64 (Lib.minOf l)) ∧ w = w' := by
  have hl := hr.len
  obtain ⟨b, off, rfl, _, hc⟩ := Reads.spot hr hpos (by omega)
  have := Tryd.slices_Min_int b off n c l w hpos (by omega) (by unfold maxLen at hn; omega) (fun j hj => hc j _ (by rw [List.getElem?_map, List.getElem?_eq_getElem hj, List.getD_eq_getElem?_getD, List.getElem?_eq_getElem hj]; rfl))
  refine this.mono ?_
  rintro e w' ⟨rfl, rfl⟩
  exact ⟨by rw [List.take_of_length_le (by omega)], rfl⟩

/-- between what a grove comes, of each tree's least and greatest -/
noncomputable def betwV (way : Int) (ws least most : List Int) : Int × Int := if way = 3 then (Lib.minOf least, Lib.maxOf most) else (togV way ws least, togV way ws most)
end Go.Proofs.YtcneacooedefjaaDoor
