/- grove.Eval, Between, Bounds: contracts. Conditions: arguments read as lists. -/
import Derived.Test.YtefkjpcgcgofgaaGroveOps
namespace Go.Proofs.Ytefkjpcgcgofgaa
set_option linter.unusedVariables false
set_option linter.unusedSimpArgs false
open Go.RowKit

theorem eachV_in {g : Gv} {r : List Int} (h : standE g r = 0) : ∀ x ∈ eachV g r, -1000000 ≤ x ∧ x ≤ 1000000 := by
  obtain ⟨hG, _, hl⟩ := standE_0 h
  intro x hx
  obtain ⟨t, ht, rfl⟩ := List.mem_map.1 hx
  obtain ⟨n, hn, _, h1, h2⟩ := leaf_in (r := r) (right_of (hG.trees t ht))
  simp only [valAt, hn]
  exact ⟨h1, h2⟩
theorem eachV_len (g : Gv) (r : List Int) : (eachV g r).length = g.ts.length := by simp [eachV]

set_option maxRecDepth 100000 in
set_option maxHeartbeats 1000000 in
theorem geval_any (g : Gv) (C : Option Addr) (k q : Nat) (r : List Int) (w : World) (hg : GReads w w.heap.size g) (hr : IReads w w.heap.size C k r) (hk : k ≤ maxLen) :
    Calls Try.prog 25 #[g.val, .slice C k q] w fun e w' => e = .returned (.tuple #[.int .i64 (gevalV g r), errV (standE g r)]) ∧ Below w.heap.size w w' := by
  obtain ⟨W, hW, bx, hWs, hb0⟩ := gbox w g.f g.way g.Aw g.nw g.cw g.At g.nt g.ct
  have hrd := hide (each_any g C k q r W ((hg.below hb0).more (by omega)) ((hr.below hb0).more (by omega)) hk)
  have c0 := bx.cell 0
  have c1 := bx.cell 1
  have c2 := bx.cell 2
  have c3 := bx.cell 3
  simp at c0 c1 c2 c3
  by_cases h0 : standE g r = 0
  · have hv := errV_0 h0
    have HV := hide hv
    have HR : Hid (eachR g r = eachV g r) := hide (by unfold eachR; rw [if_pos h0])
    have HE : Hid (gevalV g r = togV g.way g.ws (eachV g r)) := hide (by unfold gevalV; rw [if_pos h0])
    have hin := hide (eachV_in h0)
    obtain ⟨hG, _, _⟩ := standE_0 h0
    have hws := hide hG.weights
    have hnw := hg.ws.len
    have hel : (eachV g r).length = g.nw := by rw [eachV_len, ← hG.wlen, hnw]
    have h12 : g.nw ≤ 12 := by have := hG.most; have := hG.wlen; omega
    have hpos : 0 < g.nw := by have := hG.pos; have := hG.wlen; omega
    have HEL := hide hel
    have hwr := hg.ws
    have hcon : Hid (∀ (v : Value) (w1 : World), IOwn w1 W.heap.size v (eachV g r) → Below w.heap.size w w1 → Calls Try.prog 50 #[.int .i64 g.way, .slice g.Aw g.nw g.cw, v] w1 fun e w' => e = .returned (.int .i64 (gevalV g r)) ∧ Below w1.heap.size w1 w') := hide (fun v w1 ho hb => by
      obtain ⟨A, c, rfl, hrr, _, _, _⟩ := ho.slice_
      rw [unhide HE]
      rw [hel] at hrr ⊢
      exact tog_any g.way g.Aw A g.nw g.cw g.nw c g.ws (eachV g r) w1 ((hwr.below hb).more hb.size) hrr rfl h12 hpos (unhide hws) (unhide hin))
    clear hG hel hnw h0 hg hwr hws hin
    obtain ⟨f, way, Aw, nw, cw, ws, At, nt, ct, ts⟩ := g
    simp only [Gv.val] at hrd ⊢
    dsimp only at hW bx c0 c1 c2 c3 hcon h12 hpos
    go_enter Try.func25, Try.ntmps25
    go_wp2_with fail
    rw [← hW]
    refine (unhide hrd).mono ?_
    rintro e w1 ⟨v, rfl, hown, hb1⟩
    rw [hv]
    rw [unhide HR] at hown
    have z1 := hb1.size
    have d1 : w1.cell? ⟨w.heap.size, 1, none⟩ = some (.int .i64 way) := (hb1.cell (p := ⟨w.heap.size, 1, none⟩) (by show w.heap.size < _; omega)).trans c1
    have d2 : w1.cell? ⟨w.heap.size, 2, none⟩ = some (.slice Aw nw cw) := (hb1.cell (p := ⟨w.heap.size, 2, none⟩) (by show w.heap.size < _; omega)).trans c2
    have hB1 := hb0.trans (hb1.mono (by omega))
    have hc := hide (unhide hcon v w1 hown hB1)
    clear hv hrd hW c0 c1 c2 c3 bx hb1 hown hcon
    go_wp2_with fail
    refine (unhide hc).mono ?_
    rintro e w2 ⟨rfl, hb2⟩
    have hB2 := hB1.trans (hb2.mono hB1.size)
    go_wp2_with fail
    go_ret2
    exact ⟨by rw [unhide HV]; rfl, hB2⟩
  · have hv := errV_1 h0
    have HV := hide hv
    have HE : Hid (gevalV g r = 0) := hide (by unfold gevalV; rw [if_neg h0])
    obtain ⟨E, hE⟩ : ∃ E, E = standE g r := ⟨_, rfl⟩
    unfold EachPost at hrd
    rw [← hE] at hrd hv HV ⊢
    have HEE := hide hE
    clear hE h0
    rw [unhide HE]
    obtain ⟨f, way, Aw, nw, cw, ws, At, nt, ct, ts⟩ := g
    simp only [Gv.val] at hrd ⊢
    dsimp only at hW bx c0 c1 c2 c3
    go_enter Try.func25, Try.ntmps25
    go_wp2_with fail
    rw [← hW]
    refine (unhide hrd).mono ?_
    rintro e w1 ⟨v, rfl, _, hb1⟩
    rw [hv]
    clear hv hrd
    go_wp2_with fail
    go_ret2
    exact ⟨by rw [unhide HV]; rfl, hb0.trans (hb1.mono (by omega))⟩

theorem maxR_any (A : Option Addr) (n c B : Nat) (l : List Int) (w : World) (hr : IReads w B A n l) (hpos : 0 < n) (hn : n ≤ maxLen) : Calls Try.prog 68 #[.slice A n c] w fun e w' => e = .returned (.int .i64 (Lib.maxOf l)) ∧ w = w' := by
  have hl := hr.len
  obtain ⟨b, off, rfl, _, hc⟩ := Reads.spot hr hpos (by omega)
  have := Try.slices_Max_int b off n c l w hpos (by omega) (by unfold maxLen at hn; omega) (fun j hj => hc j _ (by rw [List.getElem?_map, List.getElem?_eq_getElem hj, List.getD_eq_getElem?_getD, List.getElem?_eq_getElem hj]; rfl))
  refine this.mono ?_
  rintro e w' ⟨rfl, rfl⟩
  exact ⟨by rw [List.take_of_length_le (by omega)], rfl⟩
theorem minR_any (A : Option Addr) (n c B : Nat) (l : List Int) (w : World) (hr : IReads w B A n l) (hpos : 0 < n) (hn : n ≤ maxLen) : Calls Try.prog 67 #[.slice A n c] w fun e w' => e = .returned (.int .i64 (Lib.minOf l)) ∧ w = w' := by
  have hl := hr.len
  obtain ⟨b, off, rfl, _, hc⟩ := Reads.spot hr hpos (by omega)
  have := Try.slices_Min_int b off n c l w hpos (by omega) (by unfold maxLen at hn; omega) (fun j hj => hc j _ (by rw [List.getElem?_map, List.getElem?_eq_getElem hj, List.getD_eq_getElem?_getD, List.getElem?_eq_getElem hj]; rfl))
  refine this.mono ?_
  rintro e w' ⟨rfl, rfl⟩
  exact ⟨by rw [List.take_of_length_le (by omega)], rfl⟩

/-- between what a grove comes, of each tree's least and greatest -/
noncomputable def betwV (way : Int) (ws least most : List Int) : Int × Int := if way = 3 then (Lib.minOf least, Lib.maxOf most) else (togV way ws least, togV way ws most)
set_option maxRecDepth 100000 in
set_option maxHeartbeats 1000000 in
theorem between_any (g : Gv) (Al Am : Option Addr) (nl cl nm cm : Nat) (least most : List Int) (w : World) (hw : IReads w w.heap.size g.Aw g.nw g.ws) (hl : IReads w w.heap.size Al nl least) (hm : IReads w w.heap.size Am nm most) (h1 : nl = g.nw) (h2 : nm = g.nw)
    (h12 : g.nw ≤ 12) (hpos : 0 < g.nw) (hwb : ∀ x ∈ g.ws, 1 ≤ x ∧ x ≤ 1000) (hlb : ∀ x ∈ least, -1000000 ≤ x ∧ x ≤ 1000000) (hmb : ∀ x ∈ most, -1000000 ≤ x ∧ x ≤ 1000000) :
    Calls Try.prog 48 #[g.val, .slice Al nl cl, .slice Am nm cm] w fun e w' => e = .returned (.tuple #[.int .i64 (betwV g.way g.ws least most).1, .int .i64 (betwV g.way g.ws least most).2]) ∧ Below w.heap.size w w' := by
  subst h1
  subst h2
  obtain ⟨W, hW, bx, hWs, hb0⟩ := gbox w g.f g.way g.Aw g.nw g.cw g.At g.nt g.ct
  have c0 := bx.cell 0
  have c1 := bx.cell 1
  have c2 := bx.cell 2
  have c3 := bx.cell 3
  simp at c0 c1 c2 c3
  have hll := hl.len
  have hml := hm.len
  by_cases h3 : g.way = 3
  · have e3 : (g.way == 3) = true := by simp [h3]
    have HB : Hid (betwV g.way g.ws least most = (Lib.minOf least, Lib.maxOf most)) := hide (by unfold betwV; rw [if_pos h3])
    rw [unhide HB]
    have hmin := hide (minR_any Al g.nw cl w.heap.size least W (hl.below hb0) hpos (by unfold maxLen; omega))
    have hmax := hide (maxR_any Am g.nw cm w.heap.size most W (hm.below hb0) hpos (by unfold maxLen; omega))
    clear h3 hw hl hm
    obtain ⟨f, way, Aw, nw, cw, ws, At, nt, ct, ts⟩ := g
    simp only [Gv.val]
    dsimp only at hW bx c0 c1 c2 c3 e3 hmin hmax h12 hpos
    go_enter Try.func48, Try.ntmps48
    go_wp2_with fail
    rw [← hW]
    clear hW
    refine (unhide hmin).mono ?_
    rintro e w1 ⟨rfl, rfl⟩
    clear hmin
    go_wp2_with fail
    refine (unhide hmax).mono ?_
    rintro e w1 ⟨rfl, rfl⟩
    go_wp2_with fail
    go_ret2
    exact ⟨rfl, hb0⟩
  · have e3 : (g.way == 3) = false := by simp [h3]
    have HB : Hid (betwV g.way g.ws least most = (togV g.way g.ws least, togV g.way g.ws most)) := hide (by unfold betwV; rw [if_neg h3])
    rw [unhide HB]
    have hb0s := hb0.size
    have ht1 := fun (W1 : World) (hb : Below w.heap.size w W1) => tog_any g.way g.Aw Al g.nw g.cw g.nw cl g.ws least W1 ((hw.below hb).more hb.size) ((hl.below hb).more hb.size) rfl h12 hpos hwb hlb
    have ht2 := fun (W1 : World) (hb : Below w.heap.size w W1) => tog_any g.way g.Aw Am g.nw g.cw g.nw cm g.ws most W1 ((hw.below hb).more hb.size) ((hm.below hb).more hb.size) rfl h12 hpos hwb hmb
    have HT1 := hide ht1
    have HT2 := hide ht2
    clear h3 hw hl hm ht1 ht2 hll hml hwb hlb hmb
    obtain ⟨f, way, Aw, nw, cw, ws, At, nt, ct, ts⟩ := g
    simp only [Gv.val]
    dsimp only at hW bx c0 c1 c2 c3 e3 HT1 HT2 h12 hpos
    obtain ⟨L1, hL1⟩ : ∃ L1, L1 = togV way ws least := ⟨_, rfl⟩
    obtain ⟨L2, hL2⟩ : ∃ L2, L2 = togV way ws most := ⟨_, rfl⟩
    rw [← hL1] at HT1 ⊢
    rw [← hL2] at HT2 ⊢
    clear hL1 hL2 HB
    go_enter Try.func48, Try.ntmps48
    go_wp2_with fail
    rw [← hW]
    clear hW
    go_region_held3 (fun w' => w'.cell? ⟨w.heap.size, 1, none⟩ = some (.int .i64 way) ∧ w'.cell? ⟨w.heap.size, 2, none⟩ = some (.slice Aw nw cw))
      (first | go_keep | (go_split_ands <;> (first | (rw [hk1]; assumption) | (rw [hk2]; assumption))))
      (first
        | (go_at_call 50
           (with_reducible refine (unhide HT1 _ (hb0.drew)).mono ?_)
           rintro e w1 ⟨rfl, hb1⟩
           have hk1 : ∀ o, w1.cell? ⟨w.heap.size, o, none⟩ = W.cell? ⟨w.heap.size, o, none⟩ := fun o => hb1.cell (p := ⟨w.heap.size, o, none⟩) (by show w.heap.size < W.heap.size; omega)
           have hB1 : Below w.heap.size w w1 := (hb0.drew).trans (hb1.mono hb0s))
        | (go_at_call 50
           (with_reducible refine (unhide HT2 _ hB1).mono ?_)
           rintro e w2 ⟨rfl, hb2⟩
           have hk2 : ∀ o, w2.cell? ⟨w.heap.size, o, none⟩ = W.cell? ⟨w.heap.size, o, none⟩ := fun o => (hb2.cell (p := ⟨w.heap.size, o, none⟩) (by have := hb1.size; show w.heap.size < w1.heap.size; simp at this; omega)).trans (hk1 o)
           have hB2 : Below w.heap.size w w2 := hB1.trans (hb2.mono hB1.size)))
    go_wp2_with fail
    go_ret2
    exact ⟨rfl, hB2⟩
end Go.Proofs.Ytefkjpcgcgofgaa
