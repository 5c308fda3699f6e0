/- Part 31 of what LawBoostTells needs: BoostTells. Conditions: as each lemma names. -/
import Derived.Test.YtdpijhnbhopnbaaGreatDoorPkBoostTells23
import Derived.Test.YtdpijhnbhopnbaaGreatDoorPkBoostTells26
import Derived.Test.YtdpijhnbhopnbaaGreatDoorPkBoostTells27
import Derived.Test.YtdpijhnbhopnbaaGreatDoorPkBoostTells19
import Derived.Test.YtdpijhnbhopnbaaGreatDoorPkBoostTells29
import Derived.Test.YtdpijhnbhopnbaaGreatDoorPkBoostTells30
import Derived.Deep.CutRange
/- BoostTells: the walk. Conditions: samples and a grove that read as data, the type of errors as it lies. -/
namespace Go.Proofs.YtdpijhnbhopnbaaGreatDoor
set_option linter.unusedVariables false
set_option linter.unusedSimpArgs false
open Go.RowKit

/-- what a grove says is no greater than a number can be -/
theorem geval_in {g : Gv} {r : List Int} (h : standE g r = 0) : -1000000000000000 ≤ gevalV g r ∧ gevalV g r ≤ 1000000000000000 := by
  have hG := (standE_0 h).1
  have hv := eachV_in h
  have hl : (eachV g r).length = g.ws.length := by rw [eachV_len, hG.wlen]
  have hzl : ((eachV g r).zip g.ws).length = g.ts.length := by rw [List.length_zip, hl, Nat.min_self, hG.wlen]
  have h12 := hG.most
  have hp0 := hG.pos
  have hp : ∀ p ∈ (eachV g r).zip g.ws, (-1000000 ≤ p.1 ∧ p.1 ≤ 1000000) ∧ 1 ≤ p.2 ∧ p.2 ≤ 1000 := fun p hp => by
    obtain ⟨a, b⟩ := p
    obtain ⟨h1, h2⟩ := List.of_mem_zip hp
    exact ⟨hv a h1, hG.weights b h2⟩
  have hs := pSum_in (ps := (eachV g r).zip g.ws) (fun p h1 => mul_in (hp p h1).1 (by have := (hp p h1).2; omega))
  have ha := pAll_in (ps := (eachV g r).zip g.ws) (fun p h1 => (hp p h1).2)
  have hn : eachV g r ≠ [] := fun e => by rw [e] at hl; rw [hG.wlen] at hl; simp at hl; omega
  have hvt := hv _ (vote_in hl hn)
  unfold gevalV togV
  rw [if_pos h]
  rw [hzl] at hs ha
  obtain ⟨S, hS⟩ : ∃ S, S = pSum ((eachV g r).zip g.ws) := ⟨_, rfl⟩
  obtain ⟨T, hT⟩ : ∃ S, S = pAll ((eachV g r).zip g.ws) := ⟨_, rfl⟩
  rw [← hS] at hs
  rw [← hT] at ha
  rw [← hS, ← hT]
  by_cases h1 : g.way = 1
  · rw [if_pos h1]; omega
  · rw [if_neg h1]
    by_cases h2 : g.way = 2
    · rw [if_pos h2]
      have h3 : (0 : Int) < T := by omega
      have a1 := Int.le_ediv_of_mul_le (a := -12000000000) (b := S) h3 (by omega)
      have a2 := Int.ediv_le_of_le_mul (a := S) (b := 12000000000) (c := T) h3 (by omega)
      omega
    · rw [if_neg h2]; omega

def bad3 (E ro de sh : Int) : Bool := (E == 0) && (decide (ro < 0) || decide (8 < ro) || decide (de < 1) || decide (4 < de) || decide (sh < 1) || decide (100 < sh))
theorem boostE_bad {ss : List Sm} {fe ro de sh : Int} : boostE ss fe ro de sh = if bad3 (sampE ss fe) ro de sh = true then 1 else sampE ss fe := by
  unfold boostE bad3
  by_cases h0 : sampE ss fe = 0
  · rw [if_pos h0]
    by_cases h1 : ro < 0 ∨ 8 < ro ∨ de < 1 ∨ 4 < de ∨ sh < 1 ∨ 100 < sh
    · rw [if_pos h1, if_pos (by simp [h0]; omega)]
    · rw [if_neg h1, if_neg (by simp [h0]; omega)]; exact h0.symm
  · rw [if_neg h0, if_neg (by simp [h0])]
/-- the grove that samples come to -/
def Want (ss : List Sm) (fe ro de sh : Int) (g : Gv) : Prop :=
  (boostE ss fe ro de sh = 0 → g.f = fe ∧ g.way = 2 ∧ g.trees = boostTrees ss fe.toNat ro.toNat de.toNat sh ∧ g.ws = List.replicate g.trees.length 1) ∧
  (boostE ss fe ro de sh ≠ 0 → g.f = 0 ∧ g.way = 0 ∧ g.ws = [] ∧ g.ts = [])
theorem Want.same {ss : List Sm} {fe ro de sh : Int} {a b : Gv} (ha : Want ss fe ro de sh a) (hb : Want ss fe ro de sh b) : a.f = b.f ∧ a.way = b.way ∧ a.ws = b.ws ∧ a.trees = b.trees := by
  by_cases h : boostE ss fe ro de sh = 0
  · obtain ⟨a1, a2, a3, a4⟩ := ha.1 h
    obtain ⟨b1, b2, b3, b4⟩ := hb.1 h
    exact ⟨by rw [a1, b1], by rw [a2, b2], by rw [a4, b4, a3, b3], by rw [a3, b3]⟩
  · obtain ⟨a1, a2, a3, a4⟩ := ha.2 h
    obtain ⟨b1, b2, b3, b4⟩ := hb.2 h
    exact ⟨by rw [a1, b1], by rw [a2, b2], by rw [a3, b3], by unfold Gv.trees; rw [a4, b4]⟩
def gz : Gv := ⟨0, 0, none, 0, 0, [], none, 0, 0, []⟩
theorem gz_reads (w : World) : GReads w w.heap.size gz := ⟨Reads.none_, ⟨Reads.none_, fun r hr => by cases hr⟩, by decide, by decide, fun _ => rfl, fun _ => rfl⟩
theorem GReads.below' {w w' : World} {g : Gv} (h : GReads w w.heap.size g) (hb : Below w.heap.size w w') : GReads w' w'.heap.size g := (h.below hb).more hb.size
def gcells (g : Gv) : Array Value := #[.int .i64 g.f, .int .i64 g.way, .slice g.Aw g.nw g.cw, .slice g.At g.nt g.ct]
/-- the box of a grove, and the grove -/
def GBox (w : World) (b : Nat) (g : Gv) : Prop := Blk w b 26 (gcells g) ∧ GReads w w.heap.size g
theorem GBox.below {w w' : World} {b : Nat} {g : Gv} (h : GBox w b g) (hb : Below w.heap.size w w') : GBox w' b g := ⟨h.1.below hb h.1.lt, h.2.below' hb⟩
theorem GBox.cells {w : World} {b : Nat} {g : Gv} (h : GBox w b g) : w.cell? ⟨b, 0, none⟩ = some (.int .i64 g.f) ∧ w.cell? ⟨b, 1, none⟩ = some (.int .i64 g.way) ∧ w.cell? ⟨b, 2, none⟩ = some (.slice g.Aw g.nw g.cw) ∧ w.cell? ⟨b, 3, none⟩ = some (.slice g.At g.nt g.ct) :=
  ⟨h.1.cell 0, h.1.cell 1, h.1.cell 2, h.1.cell 3⟩
/-- four cells written into a box -/
theorem wboxT {w : World} {g : Nat} {T : TypeId} {x0 x1 x2 x3 : Value} (h : Blk w g T #[x0, x1, x2, x3]) (y0 y1 y2 y3 : Value) : ∃ W, W = (((w.setCell ⟨g, 0, none⟩ y0).setCell ⟨g, 1, none⟩ y1).setCell ⟨g, 2, none⟩ y2).setCell ⟨g, 3, none⟩ y3 ∧
    Blk W g T #[y0, y1, y2, y3] ∧ W.heap.size = w.heap.size ∧ Below g w W ∧ w.grownBy W (some g) := by
  refine ⟨_, rfl, ?_, by simp [World.setCell], ((((Below.refl _ _).setCell (p := ⟨g, 0, none⟩) (Nat.le_refl _) _).setCell (p := ⟨g, 1, none⟩) (Nat.le_refl _) _).setCell (p := ⟨g, 2, none⟩) (Nat.le_refl _) _).setCell (p := ⟨g, 3, none⟩) (Nat.le_refl _) _, only_setCell (p := ⟨g, 3, none⟩) (only_setCell (p := ⟨g, 2, none⟩) (only_setCell (p := ⟨g, 1, none⟩) (only_setCell (p := ⟨g, 0, none⟩) (World.grownBy.refl w _) (.inl rfl) _) (.inl rfl) _) (.inl rfl) _) (.inl rfl) _⟩
  · have := (((h.set_ 0 y0).set_ 1 y1).set_ 2 y2).set_ 3 y3
    simpa using this
theorem calls_nameT {P : Program} {f : FuncId} {xs : Array Value} {W : World} {Q : Ending → World → Prop} (h : ∀ X, X = W → Calls P f xs X Q) : Calls P f xs W Q := h W rfl
theorem post_nameT {Q : Exit → Act → World → Prop} {e : Exit} {a : Act} {W : World} (h : ∀ X, X = W → Q e a X) : Q e a W := h W rfl

set_option maxRecDepth 100000 in
set_option maxHeartbeats 8000000 in
theorem boostTells_walk (A : Option Addr) (m c : Nat) (fe ro de sh : Int) (ss : List Sm) (g : Gv) (w : World) (he : ErrT w) (hs : MReads w w.heap.size A m ss) (hg : GReads w w.heap.size g) (hm : m ≤ maxLen) :
    Calls Tryz.prog 3 #[.slice A m c, .int .i64 fe, .int .i64 ro, .int .i64 de, .int .i64 sh, g.val] w fun e w' => e = .returned (.bool true) ∧ Below w.heap.size w w' := by
  have h0s := he.lt
  have HL := hide hs.len
  have cEr := hide (fun (W : World) (hB : Below w.heap.size w W) (a b : Int) => error_any a b W (he.below hB h0s))
  have cS := hide (fun (W : World) (hB : Below w.heap.size w W) (f : Int) => rsamples_any A m c f ss W ((hs.below hB).more hB.size) hm)
  unfold RSampPost at cS
  have cB := hide (fun (W : World) (hB : Below w.heap.size w W) => boost_any A m c fe ro de sh ss W ((hs.below hB).more hB.size) hm)
  unfold BoostPost at cB
  have cRB : Hid (boostE ss fe ro de sh = 0 → ∀ W, Below w.heap.size w W → Calls Tryz.prog 5 #[.slice A m c, .int .i64 fe, .int .i64 ro, .int .i64 de, .int .i64 sh] W fun e w' => ∃ g' : Gv, e = .returned g'.val ∧ GLow w' W.heap.size g' ∧ Below W.heap.size W w' ∧ Want ss fe ro de sh g') := hide (fun h W hB => by
    obtain ⟨a0, a1, a2, a3, a4, a5, a6⟩ := boostE_0 h
    obtain ⟨n, hn, hsr⟩ := samp_right a0
    obtain ⟨R, hR⟩ : ∃ R : Nat, ro = R := ⟨ro.toNat, by omega⟩
    obtain ⟨d, hd⟩ : ∃ d : Nat, de = d := ⟨de.toNat, by omega⟩
    subst hn hR hd
    refine (rboost_any A m c n R d sh ss W ((hs.below hB).more hB.size) hsr (by omega) (by omega) (by omega) a5 a6).mono ?_
    rintro e w' ⟨g', rfl, h1, h2, h3, h4, h5, h6⟩
    exact ⟨g', rfl, h1, h2, fun _ => ⟨h3, h4, h5, h6⟩, fun h' => absurd h h'⟩)
  have cG : Hid (∀ W, Below w.heap.size w W → Calls Tryz.prog 9 #[g.val] W fun e w' => e = .returned (.int .i64 g.e) ∧ Below W.heap.size W w') := hide (fun W hB => rgrove_any g W ((hg.below hB).more hB.size))
  have hv : ∀ s ∈ ss, standE g s.r = 0 → -1000000000000000 ≤ gevalV g s.r ∧ gevalV g s.r ≤ 1000000000000000 := fun s _ h => geval_in h
  have cR := hide (fun (W : World) (hB : Below w.heap.size w W) => rest_any g A m c ss W ((hg.below hB).more hB.size) ((hs.below hB).more hB.size) hm hv)
  unfold RestPost at cR
  have cW := hide (fun (W : World) (hB : Below w.heap.size w W) => bwrong_any g A m c ss W ((hg.below hB).more hB.size) ((hs.below hB).more hB.size) hm hv)
  have hgw := hg.ws
  have cE : Hid (∀ (W : World) (s : Sm), Below w.heap.size w W → s ∈ ss → standE g s.r = 0 → Calls Tryz.prog 11 #[g.val, .slice s.A s.n s.c] W (IPost (eachV g s.r) W)) := hide (fun W s hB hm h0 => reach_any g s.A s.n s.c s.r W ((hg.below hB).more hB.size) (((hs.2 s hm).reads.below hB).more hB.size) (hs.2 s hm).len h0)
  have cT : Hid (∀ (W : World) (s : Sm) (v : Value) (B : Nat), Below w.heap.size w W → standE g s.r = 0 → IOwn W B v (eachV g s.r) → Calls Tryz.prog 10 #[g.val, v] W fun e w' => e = .returned (.int .i64 (gevalV g s.r)) ∧ Below W.heap.size W w') := hide (fun W s v B hB h0 hv => by
    obtain ⟨hG, _, _⟩ := standE_0 h0
    obtain ⟨A, c, rfl, hrr, _, _, _⟩ := hv.slice_
    have e1 := hgw.len
    have e2 := hG.wlen
    have e3 := hG.most
    have e4 := hG.pos
    have hev : gevalV g s.r = togV g.way g.ws (eachV g s.r) := by unfold gevalV; rw [if_pos h0]
    rw [hev]
    exact rtog_any g A _ c (eachV g s.r) W ((hgw.below hB).more hB.size) hrr (by rw [eachV_len]; omega) (by rw [eachV_len]; omega) (by rw [eachV_len]; omega) hG.weights (eachV_in h0))
  have HST : Hid (restE g ss = 0 → ∀ s ∈ ss, standE g s.r = 0 ∧ -1000 ≤ s.t ∧ s.t ≤ 1000) := hide (fun h s hm => by
    unfold restE at h
    by_cases h0 : g.e = 0
    · rw [if_pos h0] at h
      obtain ⟨n, hn, hsr⟩ := samp_right h
      exact ⟨stand_samp h0 hn hsr hm, hsr.tlo s hm, hsr.thi s hm⟩
    · rw [if_neg h0] at h; exact absurd h h0)
  have HM60 : Hid (restE g ss = 0 → m ≤ 60) := hide (fun h => by
    unfold restE at h
    by_cases h0 : g.e = 0
    · rw [if_pos h0] at h
      obtain ⟨n, hn, hsr⟩ := samp_right h
      have := hsr.most
      have := hs.len
      omega
    · rw [if_neg h0] at h; exact absurd h h0)
  have HBB := hide (boostE_bad (ss := ss) (fe := fe) (ro := ro) (de := de) (sh := sh))
  have HRE : Hid (restE g ss = if g.e = 0 then sampE ss g.f else g.e) := hide rfl
  have HRV : Hid (restV g ss = if restE g ss = 0 then ss.map (fun s => s.t - gevalV g s.r) else []) := hide rfl
  have HBW : Hid (bwrongV g ss = if restE g ss = 0 then squaresV (restV g ss) else 0) := hide rfl
  have HGV : Hid (∀ s ∈ ss, standE g s.r = 0 → -1000000000000000 ≤ gevalV g s.r ∧ gevalV g s.r ≤ 1000000000000000) := hide hv
  have cSG := hide (fun (W : World) (a b : Gv) (ha : GReads W W.heap.size a) (hb : GReads W W.heap.size b) (h1 : Want ss fe ro de sh a) (h2 : Want ss fe ro de sh b) => sameGrove_any a b W ha hb (h1.same h2).1 (h1.same h2).2.1 (h1.same h2).2.2.1 (h1.same h2).2.2.2)
  have HWZ : Hid (boostE ss fe ro de sh ≠ 0 → Want ss fe ro de sh gz) := hide (fun h => ⟨fun h' => absurd h' h, fun _ => ⟨rfl, rfl, rfl, rfl⟩⟩)
  obtain ⟨E1, hE1⟩ : ∃ E, E = sampE ss fe := ⟨_, rfl⟩
  obtain ⟨E, hE⟩ : ∃ E, E = boostE ss fe ro de sh := ⟨_, rfl⟩
  obtain ⟨b3, hb3⟩ : ∃ b, b = bad3 E1 ro de sh := ⟨_, rfl⟩
  rw [← hE, ← hE1, ← hb3] at HBB
  have HB3 := hide hb3
  have HEE := hide hE
  have HE1 := hide hE1
  rw [← hE] at cB cRB HWZ
  obtain ⟨E2, hE2⟩ : ∃ E, E = restE g ss := ⟨_, rfl⟩
  rw [← hE2] at cR cW HST HM60 HRE HRV HBW
  obtain ⟨ge, hge⟩ : ∃ e, e = g.e := ⟨_, rfl⟩
  rw [← hge] at cG HRE
  obtain ⟨RL, hRL⟩ : ∃ l, l = restV g ss := ⟨_, rfl⟩
  rw [← hRL] at cR HRV HBW
  obtain ⟨WV, hWV⟩ : ∃ l, l = bwrongV g ss := ⟨_, rfl⟩
  rw [← hWV] at cW HBW
  have HS := hide hs
  have HG := hide hg
  clear hE1 hE hb3 hE2 hge hRL hWV hv hgw he h0s
  obtain ⟨W, hW, bg, hWs, hb0⟩ := gbox w g.f g.way g.Aw g.nw g.cw g.At g.nt g.ct
  have gv : g.val = .agg #[.int .i64 g.f, .int .i64 g.way, .slice g.Aw g.nw g.cw, .slice g.At g.nt g.ct] := rfl
  have G0 : GBox W w.heap.size g := ⟨bg, hg.below' (hb0)⟩
  rw [gv] at cG cR cW cE cT
  obtain ⟨gF, hgF⟩ : ∃ x, x = g.f := ⟨_, rfl⟩
  obtain ⟨gW, hgW⟩ : ∃ x, x = g.way := ⟨_, rfl⟩
  obtain ⟨gvw, hgvw⟩ : ∃ x, x = Value.slice g.Aw g.nw g.cw := ⟨_, rfl⟩
  obtain ⟨gvt, hgvt⟩ : ∃ x, x = Value.slice g.At g.nt g.ct := ⟨_, rfl⟩
  rw [← hgF, ← hgW, ← hgvw, ← hgvt] at cG cR cW cE cT
  have HGC : Hid (∀ (V : World), GBox V w.heap.size g → V.cell? ⟨w.heap.size, 0, none⟩ = some (.int .i64 gF) ∧ V.cell? ⟨w.heap.size, 1, none⟩ = some (.int .i64 gW) ∧ V.cell? ⟨w.heap.size, 2, none⟩ = some gvw ∧ V.cell? ⟨w.heap.size, 3, none⟩ = some gvt) := hide (fun V h => by rw [hgF, hgW, hgvw, hgvt]; exact h.cells)
  rw [← hgF] at HRE
  rw [gv, ← hgF, ← hgW, ← hgvw, ← hgvt]
  rw [← hgF, ← hgW, ← hgvw, ← hgvt] at hW
  clear hs hg bg hgF hgW hgvw hgvt gv
  have eE : (E == E) = true := by simp
  have eE2 : (E2 == E2) = true := by simp
  have eWV : (WV == WV) = true := by simp
  go_enter Tryz.func3, Tryz.ntmps3
  go_wp2_with fail
  rw [← hW]
  clear hW
  refine (unhide cS W hb0 fe).mono ?_
  rintro e w1 ⟨rfl, q1, rfl⟩
  rw [← unhide HE1]
  have S1 : Below w.heap.size w (W.drewN q1) := below_drewN hb0 q1
  have G1 : GBox (W.drewN q1) w.heap.size g := G0.below (below_drewN (Below.refl _ _) q1)
  have z1 : (W.drewN q1).heap.size = w.heap.size + 1 := hWs
  obtain ⟨w1, hw1⟩ : ∃ x, x = W.drewN q1 := ⟨_, rfl⟩
  rw [← hw1] at S1 G1 z1 ⊢
  clear hw1 G0 hb0 hWs HE1
  obtain ⟨K1, hK1⟩ : ∃ K, K = (((sampC ss fe).1 : Nat) : Int) := ⟨_, rfl⟩
  rw [← hK1]
  clear hK1
  go_upto_region 2 with (fail)
  go_cut [60] from 35 to 60 (fun s60 wx => s60 = .bool b3 ∧ Below w.heap.size w wx ∧ GBox wx w.heap.size g ∧ wx.heap.size = w.heap.size + 1)
  case first =>
    by_cases h0 : E1 = 0
    case neg =>
      have d0 : (E1 == 0) = false := by simpa using h0
      have HV : Hid (b3 = false) := hide (by rw [unhide HB3]; unfold bad3; rw [d0]; rfl)
      clear h0
      go_wp2_with fail
      go_meet
      case rel => exact ⟨by rw [unhide HV], S1, G1, z1⟩
    have d0 : (E1 == 0) = true := by simpa using h0
    by_cases ha1 : ro < 0
    case pos =>
      have da1 : decide (ro < 0) = true := decide_eq_true ha1
      have HV : Hid (b3 = true) := hide (by rw [unhide HB3]; unfold bad3; rw [d0, da1]; rfl)
      clear h0 ha1
      go_wp2_with fail
      go_meet
      case rel => exact ⟨by rw [unhide HV], S1, G1, z1⟩
    have da1 : decide (ro < 0) = false := decide_eq_false ha1
    by_cases ha2 : 8 < ro
    case pos =>
      have da2 : decide (8 < ro) = true := decide_eq_true ha2
      have HV : Hid (b3 = true) := hide (by rw [unhide HB3]; unfold bad3; rw [d0, da1, da2]; rfl)
      clear h0 ha1 ha2
      go_wp2_with fail
      go_meet
      case rel => exact ⟨by rw [unhide HV], S1, G1, z1⟩
    have da2 : decide (8 < ro) = false := decide_eq_false ha2
    by_cases ha3 : de < 1
    case pos =>
      have da3 : decide (de < 1) = true := decide_eq_true ha3
      have HV : Hid (b3 = true) := hide (by rw [unhide HB3]; unfold bad3; rw [d0, da1, da2, da3]; rfl)
      clear h0 ha1 ha2 ha3
      go_wp2_with fail
      go_meet
      case rel => exact ⟨by rw [unhide HV], S1, G1, z1⟩
    have da3 : decide (de < 1) = false := decide_eq_false ha3
    by_cases ha4 : 4 < de
    case pos =>
      have da4 : decide (4 < de) = true := decide_eq_true ha4
      have HV : Hid (b3 = true) := hide (by rw [unhide HB3]; unfold bad3; rw [d0, da1, da2, da3, da4]; rfl)
      clear h0 ha1 ha2 ha3 ha4
      go_wp2_with fail
      go_meet
      case rel => exact ⟨by rw [unhide HV], S1, G1, z1⟩
    have da4 : decide (4 < de) = false := decide_eq_false ha4
    by_cases ha5 : sh < 1
    case pos =>
      have da5 : decide (sh < 1) = true := decide_eq_true ha5
      have HV : Hid (b3 = true) := hide (by rw [unhide HB3]; unfold bad3; rw [d0, da1, da2, da3, da4, da5]; rfl)
      clear h0 ha1 ha2 ha3 ha4 ha5
      go_wp2_with fail
      go_meet
      case rel => exact ⟨by rw [unhide HV], S1, G1, z1⟩
    have da5 : decide (sh < 1) = false := decide_eq_false ha5
    by_cases ha6 : 100 < sh
    case pos =>
      have da6 : decide (100 < sh) = true := decide_eq_true ha6
      have HV : Hid (b3 = true) := hide (by rw [unhide HB3]; unfold bad3; rw [d0, da1, da2, da3, da4, da5, da6]; rfl)
      clear h0 ha1 ha2 ha3 ha4 ha5 ha6
      go_wp2_with fail
      go_meet
      case rel => exact ⟨by rw [unhide HV], S1, G1, z1⟩
    have da6 : decide (100 < sh) = false := decide_eq_false ha6
    have HV : Hid (b3 = false) := hide (by rw [unhide HB3]; unfold bad3; rw [d0, da1, da2, da3, da4, da5, da6]; rfl)
    clear h0 ha1 ha2 ha3 ha4 ha5 ha6
    go_wp2_with fail
    go_meet
    case rel => exact ⟨by rw [unhide HV], S1, G1, z1⟩
  case rest =>
    clear S1 G1 z1
    obtain ⟨rfl, S1, G1, z1⟩ := hcut
    go_upto_if 60 with (fail)
    go_cut [14] from 35 to 60 (fun s14 wx => s14 = .int .i64 E ∧ Below w.heap.size w wx ∧ GBox wx w.heap.size g ∧ wx.heap.size = w.heap.size + 1)
    case first =>
      cases b3
      · have HV : Hid (E = E1) := hide (by rw [unhide HBB]; rfl)
        go_wp2_with fail
        go_meet
        case rel => exact ⟨by rw [unhide HV], S1, G1, z1⟩
      · have HV : Hid (E = 1) := hide (by rw [unhide HBB]; rfl)
        go_wp2_with fail
        go_meet
        case rel => exact ⟨by rw [unhide HV], S1, G1, z1⟩
    case rest =>
      clear S1 G1 z1
      obtain ⟨rfl, S2, G2, z2⟩ := hcut
      go_upto_if 62 with (fail)
      go_cut [] from 61 to 68 (fun wx => ∃ g' : Gv, Below w.heap.size w wx ∧ GBox wx w.heap.size g ∧ GBox wx (w.heap.size + 1) g' ∧ Hid (Want ss fe ro de sh g'))
      case first =>
        refine wp_nameB fun X hX => ?_
        obtain ⟨S3, G3, bz⟩ : Below w.heap.size w X ∧ GBox X w.heap.size g ∧ Blk X (w.heap.size + 1) 26 #[.int .i64 0, .int .i64 0, .slice none 0 0, .slice none 0 0] := by
          rw [hX]
          refine ⟨S2.alloc (by omega) _, G2.below ((Below.refl _ _).alloc (Nat.le_refl _) _), ?_⟩
          have := Blk.new wc 26 #[.int .i64 0, .int .i64 0, .slice none 0 0, .slice none 0 0]
          rw [z2] at this
          exact this
        clear hX S2 G2 z2
        by_cases h0 : E = 0
        case neg =>
          have d0 : (E == 0) = false := by simpa using h0
          have HZ := hide (unhide HWZ h0)
          clear h0
          go_wp2_with fail
          go_meet
          case rel => exact ⟨gz, S3, G3, ⟨bz, gz_reads _⟩, HZ⟩
        have d0 : (E == 0) = true := by simpa using h0
        have cB1 := hide (unhide cRB h0 X S3)
        clear h0
        go_wp2_with fail
        refine (unhide cB1).mono ?_
        rintro e w4 ⟨g', rfl, hlo, hb4, hwant⟩
        have HWT := hide hwant
        have bz4 := bz.below hb4 bz.lt
        have G4 := G3.below hb4
        have S4 := S3.trans (hb4.mono S3.size)
        have hbzlt := bz.lt
        have k0 := bz4.cell 0; have k1 := bz4.cell 1; have k2 := bz4.cell 2; have k3 := bz4.cell 3
        have f0 := bz4.frozen 0; have f1 := bz4.frozen 1; have f2 := bz4.frozen 2; have f3 := bz4.frozen 3
        simp at k0 k1 k2 k3
        have gv4 : g'.val = .agg #[.int .i64 g'.f, .int .i64 g'.way, .slice g'.Aw g'.nw g'.cw, .slice g'.At g'.nt g'.ct] := rfl
        rw [gv4]
        have HX4 : Hid (∀ V, V = (((w4.setCell ⟨w.heap.size + 1, 0, none⟩ (.int .i64 g'.f)).setCell ⟨w.heap.size + 1, 1, none⟩ (.int .i64 g'.way)).setCell ⟨w.heap.size + 1, 2, none⟩ (.slice g'.Aw g'.nw g'.cw)).setCell ⟨w.heap.size + 1, 3, none⟩ (.slice g'.At g'.nt g'.ct) → Below w.heap.size w V ∧ GBox V w.heap.size g ∧ GBox V (w.heap.size + 1) g') := hide (fun V hV => by
          obtain ⟨V', hV', q1, q2, q3, q4⟩ := wboxT bz4 (.int .i64 g'.f) (.int .i64 g'.way) (.slice g'.Aw g'.nw g'.cw) (.slice g'.At g'.nt g'.ct)
          rw [← hV'] at hV
          subst hV
          refine ⟨S4.trans (q3.mono (by omega)), ⟨G4.1.grown q4 (fun e => by injection e with e; omega), ?_⟩, q1, (hlo.kept q4 hbzlt).reads⟩
          exact ((unhide HG).below' (S4.trans (q3.mono (by omega)))))
        clear hwant bz bz4 hlo cB1 gv4 hb4 S3 G3 S4 G4
        go_wp2_with fail
        go_meet
        case rel =>
          obtain ⟨r1, r2, r3⟩ := unhide HX4 _ rfl
          exact ⟨g', r1, r2, r3, HWT⟩
      case rest =>
        clear S2 G2 z2
        obtain ⟨g', S3, G3, B3, HWT⟩ := hcut
        go_wp2_with fail
        refine (unhide cB wc S3).mono ?_
        rintro e w4 ⟨g2, rfl, hr4, hb4, hw1, hw2⟩
        have HW2 : Hid (Want ss fe ro de sh g2) := hide ⟨fun h => hw1 (by rw [unhide HEE]; exact h), fun h => hw2 (by rw [unhide HEE]; exact h)⟩
        have S4 := S3.trans (hb4.mono S3.size)
        have G4 := G3.below hb4
        have B4 := B3.below hb4
        clear hw1 hw2 cB cRB HWZ hb4 S3 G3 B3
        have gv4 : g2.val = .agg #[.int .i64 g2.f, .int .i64 g2.way, .slice g2.Aw g2.nw g2.cw, .slice g2.At g2.nt g2.ct] := rfl
        rw [gv4]
        go_wp2_with fail
        refine calls_nameT fun X hX => ?_
        obtain ⟨S5, G5, B5, C5⟩ : Below w.heap.size w X ∧ GBox X w.heap.size g ∧ GBox X (w.heap.size + 1) g' ∧ GBox X w4.heap.size g2 := by
          rw [hX]
          refine ⟨S4.alloc S4.size _, G4.below ((Below.refl _ _).alloc (Nat.le_refl _) _), B4.below ((Below.refl _ _).alloc (Nat.le_refl _) _), Blk.new _ _ _, ?_⟩
          exact hr4.below' ((Below.refl _ _).alloc (Nat.le_refl _) _)
        clear hX S4 G4 B4 hr4 gv4
        obtain ⟨g16, hg16⟩ : ∃ x, x = w4.heap.size := ⟨_, rfl⟩
        rw [← hg16] at C5 ⊢
        clear hg16
        refine (unhide cEr _ S5 E E).mono ?_
        rintro e w6 ⟨rfl, hb6⟩
        have S6 := S5.trans (hb6.mono S5.size)
        have G6 := G5.below hb6
        have B6 := B5.below hb6
        have C6 := C5.below hb6
        rw [eE]
        clear S5 G5 B5 C5 hb6
        obtain ⟨k0, k1, k2, k3⟩ := B6.cells
        obtain ⟨j0, j1, j2, j3⟩ := C6.cells
        have cX := hide (unhide cSG w6 g2 g' C6.2 B6.2 (unhide HW2) (unhide HWT))
        have gv5 : g2.val = .agg #[.int .i64 g2.f, .int .i64 g2.way, .slice g2.Aw g2.nw g2.cw, .slice g2.At g2.nt g2.ct] := rfl
        have gv6 : g'.val = .agg #[.int .i64 g'.f, .int .i64 g'.way, .slice g'.Aw g'.nw g'.cw, .slice g'.At g'.nt g'.ct] := rfl
        rw [gv5, gv6] at cX
        clear cSG HW2 HWT gv5 gv6
        go_wp2_with fail
        refine (unhide cX).mono ?_
        rintro e w7 ⟨rfl, hb7⟩
        have S7 := S6.trans (hb7.mono S6.size)
        have G7 := G6.below hb7
        clear cX hb7 S6 G6 B6 C6 k0 k1 k2 k3 j0 j1 j2 j3
        obtain ⟨k0, k1, k2, k3⟩ := unhide HGC w7 G7
        go_wp2_with fail
        refine (unhide cG _ S7).mono ?_
        rintro e w8 ⟨rfl, hb8⟩
        have S8 := S7.trans (hb8.mono S7.size)
        have G8 := G7.below hb8
        clear cG hb8 S7 G7 k0 k1 k2 k3
        go_upto_if 87 with (fail)
        go_cut [14] from 86 to 94 (fun s14 wx => s14 = .int .i64 E2 ∧ Below w.heap.size w wx ∧ GBox wx w.heap.size g)
        case first =>
          by_cases h0 : ge = 0
          case neg =>
            have d0 : (ge == 0) = false := by simpa using h0
            have HV : Hid (E2 = ge) := hide (by rw [unhide HRE, if_neg h0])
            clear h0
            go_wp2_with fail
            go_meet
            case rel => exact ⟨by rw [unhide HV], S8, G8⟩
          have d0 : (ge == 0) = true := by simpa using h0
          have HV : Hid (E2 = sampE ss gF) := hide (by rw [unhide HRE, if_pos h0])
          obtain ⟨k0, k1, k2, k3⟩ := unhide HGC w8 G8
          have cS2 := hide (unhide cS w8 S8 gF)
          obtain ⟨K2, hK2⟩ : ∃ K, K = (((sampC ss gF).1 : Nat) : Int) := ⟨_, rfl⟩
          rw [← hK2, ← unhide HV] at cS2
          clear h0 hK2
          go_wp2_with fail
          refine (unhide cS2).mono ?_
          rintro e w9 ⟨rfl, q9, rfl⟩
          clear cS2
          have S9 := below_drewN S8 q9
          have G9 := G8.below (below_drewN (Below.refl _ _) q9)
          go_wp2_with fail
          go_meet
          case rel => exact ⟨rfl, S9, G9⟩
        case rest =>
          clear S8 G8 cS
          obtain ⟨rfl, S9, G9⟩ := hcut
          go_upto_block 0 with (fail)
          go_cut [20] from 22 to 123 (fun s20 wx => (∃ B A c, s20 = .slice A RL.length c ∧ IOwn wx B (.slice A RL.length c) RL) ∧ Below w.heap.size w wx ∧ GBox wx w.heap.size g)
          case first =>
            by_cases h0 : E2 = 0
            case neg =>
              have d0 : (E2 == 0) = false := by simpa using h0
              have HV : Hid (RL = []) := hide (by rw [unhide HRV, if_neg h0])
              clear h0
              go_wp2_with fail
              go_loopw [20, 22] (fun v i wr => v = .slice none 0 0 ∧ i = .int .i64 0 ∧ Hid (Below w.heap.size w wr ∧ GBox wr w.heap.size g)) (fun _ _ _ => 0)
              case atStart => exact ⟨rfl, rfl, hide ⟨S9, G9⟩⟩
              case round =>
                obtain ⟨rfl, rfl, HP⟩ := hrel
                by_cases hm0 : 0 < m
                · have d1 : decide (0 < m) = true := decide_eq_true hm0
                  have d1' : decide ((0 : Int) < (m : Int)) = true := decide_eq_true (by omega)
                  go_wp2_with fail
                  go_meet
                  case rel => exact ⟨⟨0, none, 0, by rw [unhide HV]; rfl, by rw [unhide HV]; exact IOwn.nil_ _ _⟩, (unhide HP).1, (unhide HP).2⟩
                · have d1 : decide (0 < m) = false := decide_eq_false hm0
                  have d1' : decide ((0 : Int) < (m : Int)) = false := decide_eq_false (by omega)
                  go_wp2_with fail
                  go_meet
                  case rel => exact ⟨⟨0, none, 0, by rw [unhide HV]; rfl, by rw [unhide HV]; exact IOwn.nil_ _ _⟩, (unhide HP).1, (unhide HP).2⟩
            have d0 : (E2 == 0) = true := by simpa using h0
            have hm60 := unhide HM60 h0
            have HV : Hid (RL = ss.map (fun s => s.t - gevalV g s.r)) := hide (by rw [unhide HRV, if_pos h0])
            have HST2 := hide (unhide HST h0)
            have HRL : Hid (RL.length = m) := hide (by rw [unhide HV, List.length_map, unhide HL])
            have HNX : Hid (∀ (k : Nat) (s : Sm), ss[k]? = some s → RL.take (k + 1) = RL.take k ++ [s.t - gevalV g s.r]) := hide (fun k s h => by
              rw [take_next (show RL[k]? = some (s.t - gevalV g s.r) by rw [unhide HV, List.getElem?_map, h]; rfl)])
            have HG9 := hide G9
            clear h0 HST
            go_wp2_with fail
            go_loopw [20, 22] (fun v i wr => ∃ k : Nat, k ≤ m ∧ i = .int .i64 k ∧ Hid (IOwn wr wc.heap.size v (RL.take k)) ∧ Below wc.heap.size wc wr) (fun _ i _ => m - (intOf i).toNat)
            case atStart => exact ⟨0, Nat.zero_le _, rfl, hide (IOwn.nil_ _ _), Below.refl _ _⟩
            case round =>
              obtain ⟨k, hk, rfl, HO, hbel⟩ := hrel
              have hsz := hbel.size
              by_cases hlt : k < m
              · have hbw : Below w.heap.size w wr := S9.trans (hbel.mono S9.size)
                obtain ⟨sb, so, s, hAs, hsb, hx, c0, c1, hok⟩ := ((unhide HS).below hbw).get hlt
                subst hAs
                have hmem := List.mem_of_getElem? hx
                obtain ⟨t0, t1, t2⟩ := unhide HST2 s hmem
                obtain ⟨v1, v2⟩ := unhide HGV s hmem t0
                have HN := hide (unhide HNX k s hx)
                have Gr := (unhide HG9).below hbel
                obtain ⟨k0, k1, k2, k3⟩ := unhide HGC wr Gr
                have hglt := Gr.1.lt
                have cE1 := hide (fun (V : World) (hB : Below wr.heap.size wr V) => unhide cE V s (hbw.trans (hB.mono hbw.size)) hmem t0)
                have cT1 := hide (fun (V : World) (v : Value) (B : Nat) (hB : Below wr.heap.size wr V) (hv : IOwn V B v (eachV g s.r)) => unhide cT V s v B (hbw.trans (hB.mono hbw.size)) t0 hv)
                unfold IPost at cE1
                obtain ⟨gx, hgx⟩ : ∃ x, x = gevalV g s.r := ⟨_, rfl⟩
                obtain ⟨EL, hEL⟩ : ∃ x, x = eachV g s.r := ⟨_, rfl⟩
                rw [← hgx] at cT1 HN v1 v2
                rw [← hEL] at cE1 cT1
                have hsbl : sb < wr.heap.size := by have := hsb; have := hbw.size; omega
                obtain ⟨sA, sn, sc, sr, st⟩ := s
                dsimp only at c0 c1 t1 t2 HN cE1
                have hwr : IntKind.i64.wrap (st - gx) = st - gx := IntWalk.i64_in _ (by omega)
                obtain ⟨L, hL⟩ : ∃ L, L = RL.take k := ⟨_, rfl⟩
                have hLl : L.length = k := by rw [hL, List.length_take, unhide HRL]; omega
                rw [← hL] at HN HO
                have HOA : Hid (wr.ownsRow wc.heap.size 3 1 _ L.length (L.map (Value.int .i64))) := hide (unhide HO)
                rw [hLl] at HOA
                have HLl := hide hLl
                have hk60 : k ≤ 60 := by omega
                clear hx hok hmem t0 hgx hEL hL HO hLl Gr
                go_wp2_with fail
                go_region_held3 (fun w' => w'.cell? ⟨w.heap.size, 0, none⟩ = some (.int .i64 gF) ∧ w'.cell? ⟨w.heap.size, 1, none⟩ = some (.int .i64 gW) ∧ w'.cell? ⟨w.heap.size, 2, none⟩ = some gvw ∧ w'.cell? ⟨w.heap.size, 3, none⟩ = some gvt ∧ w'.cell? ⟨sb, so + k * 2, none⟩ = some (.slice sA sn sc))
                  (first | go_keep | (refine ⟨?_, ?_, ?_, ?_, ?_⟩ <;> with_reducible assumption))
                  (first
                    | (go_at_call 11
                       (with_reducible refine (unhide cE1 _ ((Below.refl _ _).drew)).mono ?_)
                       rintro e w1 ⟨x1, rfl, ho1, hb1⟩
                       have n0 := (hb1.cell (p := ⟨w.heap.size, 0, none⟩) hglt).trans k0
                       have n1 := (hb1.cell (p := ⟨w.heap.size, 1, none⟩) hglt).trans k1
                       have n2 := (hb1.cell (p := ⟨w.heap.size, 2, none⟩) hglt).trans k2
                       have n3 := (hb1.cell (p := ⟨w.heap.size, 3, none⟩) hglt).trans k3
                       have n4 := (hb1.cell (p := ⟨sb, so + k * 2, none⟩) hsbl).trans c0
                       have hb1' : Below wr.heap.size wr w1 := (Below.refl _ _).drew.trans hb1)
                    | (go_at_call 10
                       (with_reducible refine (unhide cT1 _ _ _ hb1' ho1).mono ?_)
                       rintro e w2 ⟨rfl, hb2⟩
                       have m0 := (hb2.cell (p := ⟨w.heap.size, 0, none⟩) (Nat.lt_of_lt_of_le hglt hb1'.size)).trans n0
                       have m1 := (hb2.cell (p := ⟨w.heap.size, 1, none⟩) (Nat.lt_of_lt_of_le hglt hb1'.size)).trans n1
                       have m2 := (hb2.cell (p := ⟨w.heap.size, 2, none⟩) (Nat.lt_of_lt_of_le hglt hb1'.size)).trans n2
                       have m3 := (hb2.cell (p := ⟨w.heap.size, 3, none⟩) (Nat.lt_of_lt_of_le hglt hb1'.size)).trans n3
                       have m4 := (hb2.cell (p := ⟨sb, so + k * 2, none⟩) (Nat.lt_of_lt_of_le hsbl hb1'.size)).trans n4))
                all_goals
                  have hb2' : Below wr.heap.size wr w2 := hb1'.trans (hb2.mono hb1'.size)
                  have m5 := (hb2'.cell (p := ⟨sb, so + k * 2 + 1, none⟩) hsbl).trans c1
                  have hO2 := own_over (unhide HOA) hb2'
                  have hz2 : wc.heap.size ≤ w2.heap.size := Nat.le_trans hsz hb2'.size
                  clear n0 n1 n2 n3 n4 m0 m1 m2 m3 m4 hb1 hb2 hb1' ho1 k0 k1 k2 k3 c0 c1 cE1 cT1
                  go_wp2_with (at_builtin; refine app_one elem_int (.tmp 114) (.tmp 122) [.int .i64 (st - gx)] rfl rfl rfl hO2 rfl rfl rfl (ints_oneCell .i64 [st - gx]) (by omega) hz2 ?_; intro v3 w3 hown3 hb3 _ _)
                  have hown4 : IOwn w3 wc.heap.size v3 (RL.take (k + 1)) := by
                    rw [unhide HN]
                    unfold IOwn
                    rw [List.length_append, List.map_append, unhide HLl]
                    exact hown3
                  clear hown3 hO2
                  go_wp2_with fail
                  go_roundw
                  case rel => exact ⟨k + 1, by omega, by go_num, hide hown4, (hbel.trans (hb2'.mono hsz)).trans hb3⟩
                  case measure => simp [intOf] <;> omega
              · obtain rfl : k = m := by omega
                rw [List.take_of_length_le (by rw [unhide HRL]; exact Nat.le_refl _)] at HO
                obtain ⟨A20, c20, rfl, _, _, _, _⟩ := (unhide HO).slice_
                have HF : Hid (Below w.heap.size w wr ∧ GBox wr w.heap.size g) := hide ⟨S9.trans (hbel.mono S9.size), (unhide HG9).below hbel⟩
                go_wp2_with fail
                go_meet
                case rel => exact ⟨⟨_, A20, c20, rfl, unhide HO⟩, (unhide HF).1, (unhide HF).2⟩
          case rest =>
            clear S9 G9 cE cT
            obtain ⟨⟨B20, A20, c20, rfl, ho20⟩, S10, G10⟩ := hcut
            have hRLn := (IOwn.slice_ ho20)
            go_upto_if 125 with (fail)
            go_cut [21] from 124 to 127 (fun s21 wx => s21 = .int .i64 WV ∧ (∃ B, IOwn wx B (.slice A20 RL.length c20) RL) ∧ Below w.heap.size w wx ∧ GBox wx w.heap.size g)
            case first =>
              by_cases h0 : E2 = 0
              case neg =>
                have d0 : (E2 == 0) = false := by simpa using h0
                have HV : Hid (WV = 0) := hide (by rw [unhide HBW, if_neg h0])
                clear h0
                go_wp2_with fail
                go_meet
                case rel => exact ⟨by rw [unhide HV], ⟨_, ho20⟩, S10, G10⟩
              have d0 : (E2 == 0) = true := by simpa using h0
              have HV : Hid (WV = squaresV RL) := hide (by rw [unhide HBW, if_pos h0])
              have hm60 := unhide HM60 h0
              have HRL : RL.length = m := by rw [unhide HRV, if_pos h0, List.length_map, unhide HL]
              obtain ⟨A', c', hv', hr', _, _, _⟩ := ho20.slice_
              injection hv' with hv1 _ hv2
              subst hv1 hv2
              have cQ := hide (rsquares_any A20 RL.length c20 RL wc hr' (by omega))
              rw [← unhide HV] at cQ
              clear h0 hr' HRL
              go_wp2_with fail
              refine (unhide cQ).mono ?_
              rintro e w11 ⟨rfl, hb11⟩
              clear cQ
              go_wp2_with fail
              go_meet
              case rel => exact ⟨rfl, ⟨_, own_over ho20 hb11⟩, S10.trans (hb11.mono S10.size), G10.below hb11⟩
            case rest =>
              clear S10 G10 ho20 hRLn
              obtain ⟨rfl, ⟨B21, ho21⟩, S11, G11⟩ := hcut
              obtain ⟨k0, k1, k2, k3⟩ := unhide HGC wc G11
              go_wp2_with fail
              refine (unhide cR wc S11).mono ?_
              rintro e w12 ⟨v24, rfl, ho24, hb12⟩
              have S12 := S11.trans (hb12.mono S11.size)
              have G12 := G11.below hb12
              have ho21b := own_over ho21 hb12
              obtain ⟨A24, c24, rfl, hr24, hn24, _, _⟩ := ho24.slice_
              clear cR ho24 hb12 S11 G11 ho21 k0 k1 k2 k3
              go_wp2_with fail
              refine (unhide cEr _ S12 E2 E2).mono ?_
              rintro e w13 ⟨rfl, hb13⟩
              rw [eE2]
              have S13 := S12.trans (hb13.mono S12.size)
              have G13 := G12.below hb13
              have ho21c := own_over ho21b hb13
              have hr24b := (hr24.below hb13).more hb13.size
              obtain ⟨k0, k1, k2, k3⟩ := unhide HGC w13 G13
              clear hb13 S12 G12 ho21b hr24
              go_wp2_with fail
              refine (unhide cW _ S13).mono ?_
              rintro e w14 ⟨rfl, hb14⟩
              have S14 := S13.trans (hb14.mono S13.size)
              have ho21d := own_over ho21c hb14
              have hr24c := (hr24b.below hb14).more hb14.size
              clear cW S13 G13 ho21c hr24b k0 k1 k2 k3
              go_wp2_with fail
              refine (unhide cEr _ S14 E2 E2).mono ?_
              rintro e w15 ⟨rfl, hb15⟩
              rw [eE2]
              have S15 := S14.trans (hb15.mono S14.size)
              have hr24d := (hr24c.below hb15).more hb15.size
              have ho21e : IOwn w15 B21 (.slice A20 RL.length c20) RL := own_over ho21d hb15
              obtain ⟨A', c', hv', hr', hn', _, _⟩ := ho21e.slice_
              injection hv' with hv1 _ hv2
              subst hv1 hv2
              have cI := hide (ints_any A24 A20 RL.length RL.length c24 c20 RL RL w15 _ _ hr24d hr' hn' hn')
              clear S14 ho21d ho21e hr24c hr24d hr' hb15 cEr
              go_wp2_with fail
              refine (unhide cI).mono ?_
              rintro e w16 ⟨rfl, q16, rfl⟩
              rw [beq_self_eq_true]
              clear cI
              go_wp2_with fail
              go_ret
              exact ⟨rfl, below_drewN S15 q16⟩
end Go.Proofs.YtdpijhnbhopnbaaGreatDoor
