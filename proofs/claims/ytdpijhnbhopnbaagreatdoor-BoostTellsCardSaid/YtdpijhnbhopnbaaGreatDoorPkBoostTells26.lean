/- Part 26 of what LawBoostTells needs: BoostE, BoostL, BoostW, GroveBnd. Conditions: as each lemma names. -/
import Derived.Test.YtdpijhnbhopnbaaGreatDoorPkBoostTells18
import Derived.Test.YtdpijhnbhopnbaaGreatDoorPkBoostTells25
import Derived.Test.YtdpijhnbhopnbaaGreatDoorPkBoostTells07
import Derived.Test.YtdpijhnbhopnbaaGreatDoorPkBoostTells12
/- Package boost: Fit, what is wrong; Rest. Conditions: samples and a grove that read as data. -/
namespace Go.Proofs.YtdpijhnbhopnbaaGreatDoor
set_option linter.unusedVariables false
set_option linter.unusedSimpArgs false
open Go.RowKit

theorem boostPost_zero {ss : List Sm} {fe rounds depth part x : Int} {w w' : World} (hx : boostE ss fe rounds depth part = x) (h0 : x ≠ 0) (hb : Below w.heap.size w w') : BoostPost ss fe rounds depth part w (.returned (.tuple #[.agg #[.int .i64 0, .int .i64 0, .slice none 0 0, .slice none 0 0], errV x])) w' :=
  ⟨⟨0, 0, none, 0, 0, [], none, 0, 0, []⟩, by rw [hx]; rfl, ⟨IReads.nil_, ⟨Reads.none_, fun r hr => by cases hr⟩, Nat.zero_le _, Nat.zero_le _, fun _ => rfl, fun _ => rfl⟩, hb, fun h => absurd (hx.symm.trans h) h0, fun _ => ⟨rfl, rfl, rfl, rfl⟩⟩

set_option maxRecDepth 100000 in
set_option maxHeartbeats 8000000 in
theorem boostFitE_any (A : Option Addr) (m c : Nat) (fe rounds depth part : Int) (ss : List Sm) (w : World) (h : MReads w w.heap.size A m ss) (hm : m ≤ maxLen) (hE : boostE ss fe rounds depth part ≠ 0) :
    Calls Tryz.prog 6 #[.slice A m c, .int .i64 fe, .int .i64 rounds, .int .i64 depth, .int .i64 part] w (BoostPost ss fe rounds depth part w) := by
  have cCk := hide (gCheck_any A m c fe ss (w.alloc (.cells #[.int .i64 0, .int .i64 0, .slice none 0 0, .slice none 0 0] 26)) ((h.below ((Below.refl _ _).alloc (Nat.le_refl _) _)).more (by simp)) hm)
  unfold MCheckPost at cCk
  obtain ⟨k0, hk0⟩ : ∃ k0, k0 = (((sampC ss fe).1 : Nat) : Int) := ⟨_, rfl⟩
  rw [← hk0] at cCk
  clear hk0
  obtain ⟨W, hW⟩ : ∃ W, W = w.alloc (.cells #[.int .i64 0, .int .i64 0, .slice none 0 0, .slice none 0 0] 26) := ⟨_, rfl⟩
  have b0 : Blk W w.heap.size 26 #[.int .i64 0, .int .i64 0, .slice none 0 0, .slice none 0 0] := by rw [hW]; exact Blk.new _ _ _
  have hb0 : Below w.heap.size w W := by rw [hW]; exact (Below.refl _ _).alloc (Nat.le_refl _) _
  have hWs : W.heap.size = w.heap.size + 1 := by rw [hW]; simp
  have HWe := hide hW
  rw [← hW] at cCk
  clear hW
  have key : Hid (∀ w1 : World, Below W.heap.size W w1 → Blk w1 w.heap.size 26 #[.int .i64 0, .int .i64 0, .slice none 0 0, .slice none 0 0] ∧ Below w.heap.size w ((((w1.setCell ⟨w.heap.size, 0, none⟩ (.int .i64 0)).setCell ⟨w.heap.size, 1, none⟩ (.int .i64 0)).setCell ⟨w.heap.size, 2, none⟩ (.slice none 0 0)).setCell ⟨w.heap.size, 3, none⟩ (.slice none 0 0))) := hide (fun w1 hb1 => by
    refine ⟨b0.below hb1 (by omega), ?_⟩
    have hB := hb0.trans (hb1.mono (by omega))
    exact (((hB.setCell (p := ⟨w.heap.size, 0, none⟩) (Nat.le_refl _) _).setCell (p := ⟨w.heap.size, 1, none⟩) (Nat.le_refl _) _).setCell (p := ⟨w.heap.size, 2, none⟩) (Nat.le_refl _) _).setCell (p := ⟨w.heap.size, 3, none⟩) (Nat.le_refl _) _)
  by_cases a1 : sampE ss fe = 0
  case neg =>
    have HZ : Hid (boostE ss fe rounds depth part = sampE ss fe) := hide (by unfold boostE; rw [if_neg a1])
    have hv := errV_1 a1
    have HV := hide hv
    have HA := hide a1
    clear a1 hE b0 hb0 hWs
    go_enter Tryz.func6, Tryz.ntmps6
    go_wp2_with fail
    rw [← unhide HWe]
    refine (unhide cCk).mono ?_
    rintro e w1 ⟨rfl, hb1⟩
    obtain ⟨bk, hBF⟩ := unhide key w1 hb1
    have c0 := bk.cell 0; have c1 := bk.cell 1; have c2 := bk.cell 2; have c3 := bk.cell 3
    have f0 := bk.frozen 0; have f1 := bk.frozen 1; have f2 := bk.frozen 2; have f3 := bk.frozen 3
    simp at c0 c1 c2 c3
    have bF := (((bk.set_ 0 (.int .i64 0)).set_ 1 (.int .i64 0)).set_ 2 (.slice none 0 0)).set_ 3 (.slice none 0 0)
    simp at bF
    have HBF := hide hBF
    have HbF := hide bF
    clear bk hBF bF cCk key hb1
    rw [hv]
    clear hv
    go_wp2_with fail
    refine bodyPost_nameB fun WF hWF => ?_
    rw [← hWF] at HBF HbF
    clear hWF c0 c1 c2 c3 f0 f1 f2 f3
    have k0 := (unhide HbF).cell 0
    have k1 := (unhide HbF).cell 1
    have k2 := (unhide HbF).cell 2
    have k3 := (unhide HbF).cell 3
    simp at k0 k1 k2 k3
    have hP := boostPost_zero (unhide HZ) (unhide HA) (unhide HBF)
    rw [unhide HV] at hP
    exact bodyPost_ret (v := .tuple #[.agg #[.int .i64 0, .int .i64 0, .slice none 0 0, .slice none 0 0], .iface 54 (.int .i64 (sampE ss fe))]) (by simp [results, Tryz.results6, go_sem, k0, k1, k2, k3]) rfl hP
  have hbad : rounds < 0 ∨ 8 < rounds ∨ depth < 1 ∨ 4 < depth ∨ part < 1 ∨ 100 < part := by
    unfold boostE at hE
    rw [if_pos a1] at hE
    exact Decidable.byContradiction fun hn => hE (by rw [if_neg hn])
  have HZ : Hid (boostE ss fe rounds depth part = 1) := hide (by unfold boostE; rw [if_pos a1, if_pos hbad])
  rw [a1, errV_0 rfl] at cCk
  have hcomb : ∃ b : Bool, b = true ∧ ((decide (rounds < 0) || decide (8 < rounds) || decide (depth < 1) || decide (4 < depth) || decide (part < 1) || decide (100 < part)) = b) := ⟨_, rfl, by simp; omega⟩
  have HCB := hide hcomb
  have HBAD := hide hbad
  clear a1 hE b0 hb0 hWs hcomb hbad
  go_enter Tryz.func6, Tryz.ntmps6
  go_wp2_with fail
  rw [← unhide HWe]
  refine (unhide cCk).mono ?_
  rintro e w1 ⟨rfl, hb1⟩
  obtain ⟨bk, hBF⟩ := unhide key w1 hb1
  have c0 := bk.cell 0; have c1 := bk.cell 1; have c2 := bk.cell 2; have c3 := bk.cell 3
  have f0 := bk.frozen 0; have f1 := bk.frozen 1; have f2 := bk.frozen 2; have f3 := bk.frozen 3
  simp at c0 c1 c2 c3
  have bF := (((bk.set_ 0 (.int .i64 0)).set_ 1 (.int .i64 0)).set_ 2 (.slice none 0 0)).set_ 3 (.slice none 0 0)
  simp at bF
  have HBF := hide hBF
  have HbF := hide bF
  clear bk hBF bF cCk key hb1
  go_upto_region 4 with (fail)
  go_cut [59] from 38 to 59 (fun s wx => s = .bool true ∧ wx = w1)
  case first =>
    by_cases h1 : rounds < 0
    · have d1 : decide (rounds < 0) = true := decide_eq_true h1
      clear h1
      go_wp2_with fail
      go_meet
      case rel => exact ⟨rfl, rfl⟩
    have d1 : decide (rounds < 0) = false := decide_eq_false h1
    by_cases h2 : 8 < rounds
    · have d2 : decide (8 < rounds) = true := decide_eq_true h2
      clear h1 h2
      go_wp2_with fail
      go_meet
      case rel => exact ⟨rfl, rfl⟩
    have d2 : decide (8 < rounds) = false := decide_eq_false h2
    by_cases h3 : depth < 1
    · have d3 : decide (depth < 1) = true := decide_eq_true h3
      clear h1 h2 h3
      go_wp2_with fail
      go_meet
      case rel => exact ⟨rfl, rfl⟩
    have d3 : decide (depth < 1) = false := decide_eq_false h3
    by_cases h4 : 4 < depth
    · have d4 : decide (4 < depth) = true := decide_eq_true h4
      clear h1 h2 h3 h4
      go_wp2_with fail
      go_meet
      case rel => exact ⟨rfl, rfl⟩
    have d4 : decide (4 < depth) = false := decide_eq_false h4
    by_cases h5 : part < 1
    · have d5 : decide (part < 1) = true := decide_eq_true h5
      clear h1 h2 h3 h4 h5
      go_wp2_with fail
      go_meet
      case rel => exact ⟨rfl, rfl⟩
    have d5 : decide (part < 1) = false := decide_eq_false h5
    have d6 : decide (100 < part) = true := decide_eq_true (by have := unhide HBAD; omega)
    clear h1 h2 h3 h4 h5
    go_wp2_with fail
    go_meet
    case rel => exact ⟨rfl, rfl⟩
  case rest =>
    obtain ⟨rfl, rfl⟩ := hcut
    go_wp2_with fail
    refine bodyPost_nameB fun WF hWF => ?_
    rw [← hWF] at HBF HbF
    clear hWF c0 c1 c2 c3 f0 f1 f2 f3
    have k0 := (unhide HbF).cell 0
    have k1 := (unhide HbF).cell 1
    have k2 := (unhide HbF).cell 2
    have k3 := (unhide HbF).cell 3
    simp at k0 k1 k2 k3
    have hP := boostPost_zero (unhide HZ) (by decide) (unhide HBF)
    exact bodyPost_ret (v := .tuple #[.agg #[.int .i64 0, .int .i64 0, .slice none 0 0, .slice none 0 0], .iface 54 (.int .i64 1)]) (by simp [results, Tryz.results6, go_sem, k0, k1, k2, k3]) rfl hP
theorem boost_any (A : Option Addr) (m c : Nat) (fe rounds depth part : Int) (ss : List Sm) (w : World) (h : MReads w w.heap.size A m ss) (hm : m ≤ maxLen) :
    Calls Tryz.prog 6 #[.slice A m c, .int .i64 fe, .int .i64 rounds, .int .i64 depth, .int .i64 part] w (BoostPost ss fe rounds depth part w) := by
  by_cases hE : boostE ss fe rounds depth part = 0
  · exact boostFit_any A m c fe rounds depth part ss w h hm hE
  · exact boostFitE_any A m c fe rounds depth part ss w h hm hE

/-! ### what is left -/
def restE (g : Gv) (ss : List Sm) : Int := if g.e = 0 then sampE ss g.f else g.e
noncomputable def restV (g : Gv) (ss : List Sm) : List Int := if restE g ss = 0 then ss.map fun s => s.t - gevalV g s.r else []
theorem samp_row {ss : List Sm} {n : Nat} (hs : SRight ss n) {s : Sm} (h : s ∈ ss) : rowE s.r = 0 :=
  rowE_good (fun x hx => rowGood_cell (hs.cell s h x hx).1 (hs.cell s h x hx).2) (by have := hs.len s h; have := hs.fe8; omega)
theorem stand_samp {g : Gv} {ss : List Sm} {n : Nat} (hg : g.e = 0) (hn : g.f = n) (hs : SRight ss n) {s : Sm} (h : s ∈ ss) : standE g s.r = 0 := by
  unfold standE
  rw [if_pos hg, if_pos (samp_row hs h), if_pos (by rw [hs.len s h, hn])]
theorem rest_next {g : Gv} {ss : List Sm} {k : Nat} {s : Sm} (h : ss[k]? = some s) : (ss.take (k + 1)).map (fun s => s.t - gevalV g s.r) = (ss.take k).map (fun s => s.t - gevalV g s.r) ++ [s.t - gevalV g s.r] := by rw [take_next h, List.map_append]; rfl
def RestPost (g : Gv) (ss : List Sm) (w : World) (e : Ending) (w' : World) : Prop := ∃ v, e = .returned (.tuple #[v, errV (restE g ss)]) ∧ IOwn w' w.heap.size v (restV g ss) ∧ Below w.heap.size w w'

set_option maxRecDepth 100000 in
set_option maxHeartbeats 4000000 in
theorem rest_any (g : Gv) (C : Option Addr) (k c : Nat) (ss : List Sm) (w : World) (hg : GReads w w.heap.size g) (hs : MReads w w.heap.size C k ss) (hk : k ≤ maxLen)
    (hv : ∀ s ∈ ss, standE g s.r = 0 → -1000000000000000 ≤ gevalV g s.r ∧ gevalV g s.r ≤ 1000000000000000) :
    Calls Tryz.prog 13 #[g.val, .slice C k c] w (RestPost g ss w) := by
  have cCk := hide (fun (W : World) (hB : Below w.heap.size w W) => gcheck_any g W ((hg.below hB).more hB.size))
  have cS := hide (fun (W : World) (hB : Below w.heap.size w W) => gCheck_any C k c g.f ss W ((hs.below hB).more hB.size) hk)
  unfold MCheckPost at cS
  have cEv := hide (fun (W : World) (hB : Below w.heap.size w W) (s : Sm) (hm : s ∈ ss) => geval_any g s.A s.n s.c s.r W ((hg.below hB).more hB.size) (((hs.2 s hm).reads.below hB).more hB.size) (hs.2 s hm).len)
  obtain ⟨W, hW, bg, hWs, hb0⟩ := gbox w g.f g.way g.Aw g.nw g.cw g.At g.nt g.ct
  have HW := hide hW
  have gv : g.val = .agg #[.int .i64 g.f, .int .i64 g.way, .slice g.Aw g.nw g.cw, .slice g.At g.nt g.ct] := rfl
  by_cases h0 : g.e = 0
  case neg =>
    have HP : Hid (RestPost g ss w = fun e w' => ∃ v, e = .returned (.tuple #[v, errV g.e]) ∧ IOwn w' w.heap.size v [] ∧ Below w.heap.size w w') := hide (by
      funext e w'
      have h1 : restE g ss = g.e := by unfold restE; rw [if_neg h0]
      have h2 : restV g ss = [] := by unfold restV; rw [h1, if_neg h0]
      unfold RestPost
      rw [h1, h2])
    rw [unhide HP]
    have hv2 := errV_1 h0
    have HV := hide hv2
    obtain ⟨E, hE⟩ : ∃ E, E = errV g.e := ⟨_, rfl⟩
    rw [← hE] at cCk hv2 ⊢
    have HV2 := hide hv2
    rw [gv] at cCk ⊢
    clear h0 HV hE cS cEv hW hv2
    go_enter Tryz.func13, Tryz.ntmps13
    go_wp2_with fail
    rw [← unhide HW]
    refine (unhide cCk W hb0).mono ?_
    rintro e w1 ⟨rfl, hb1⟩
    have hB1 := hb0.trans (hb1.mono (by omega))
    clear cCk bg hb0 hb1 hWs
    rw [unhide HV2]
    go_wp2_with fail
    go_ret2
    exact ⟨_, by rw [unhide HV2]; rfl, IOwn.nil_ _ _, hB1⟩
  by_cases a1 : sampE ss g.f = 0
  case neg =>
    have HP : Hid (RestPost g ss w = fun e w' => ∃ v, e = .returned (.tuple #[v, errV (sampE ss g.f)]) ∧ IOwn w' w.heap.size v [] ∧ Below w.heap.size w w') := hide (by
      funext e w'
      have h1 : restE g ss = sampE ss g.f := by unfold restE; rw [if_pos h0]
      have h2 : restV g ss = [] := by unfold restV; rw [h1, if_neg a1]
      unfold RestPost
      rw [h1, h2])
    rw [unhide HP]
    have hv2 := errV_1 a1
    have hg0 := errV_0 h0
    have HG0 := hide hg0
    obtain ⟨k0, hk0⟩ : ∃ k0, k0 = (((sampC ss g.f).1 : Nat) : Int) := ⟨_, rfl⟩
    rw [← hk0] at cS
    obtain ⟨E, hE⟩ : ∃ E, E = errV (sampE ss g.f) := ⟨_, rfl⟩
    rw [← hE] at cS hv2 ⊢
    have HV2 := hide hv2
    have c0 := bg.cell 0
    simp at c0
    rw [gv] at cCk ⊢
    clear h0 hE cEv hW hv2 a1 hk0 hg0
    go_enter Tryz.func13, Tryz.ntmps13
    go_wp2_with fail
    rw [← unhide HW]
    refine (unhide cCk W hb0).mono ?_
    rintro e w1 ⟨rfl, hb1⟩
    have hB1 := hb0.trans (hb1.mono (by omega))
    have c0' : w1.cell? ⟨w.heap.size, 0, none⟩ = some (.int .i64 g.f) := (hb1.cell (p := ⟨w.heap.size, 0, none⟩) (by show w.heap.size < _; omega)).trans c0
    clear cCk bg hb0 hb1 hWs c0
    rw [unhide HG0]
    go_wp2_with fail
    refine (unhide cS w1 hB1).mono ?_
    rintro e w2 ⟨rfl, hb2⟩
    rw [unhide HV2]
    go_wp2_with fail
    go_ret2
    exact ⟨_, by rw [unhide HV2]; rfl, IOwn.nil_ _ _, hB1.trans (hb2.mono hB1.size)⟩
  obtain ⟨n, hn, hsr⟩ := samp_right a1
  have HP : Hid (RestPost g ss w = fun e w' => ∃ v, e = .returned (.tuple #[v, .nilIface]) ∧ IOwn w' w.heap.size v (ss.map fun s => s.t - gevalV g s.r) ∧ Below w.heap.size w w') := hide (by
    funext e w'
    have h1 : restE g ss = 0 := by unfold restE; rw [if_pos h0, a1]
    have h2 : restV g ss = ss.map fun s => s.t - gevalV g s.r := by unfold restV; rw [h1, if_pos rfl]
    unfold RestPost
    rw [h1, h2, errV_0 rfl])
  rw [unhide HP]
  have HST : Hid (∀ s ∈ ss, standE g s.r = 0) := hide (fun s hm => stand_samp h0 hn hsr hm)
  have HVB : Hid (∀ s ∈ ss, -1000000000000000 ≤ gevalV g s.r ∧ gevalV g s.r ≤ 1000000000000000) := hide (fun s hm => hv s hm (unhide HST s hm))
  have HSR := hide hsr
  have hg0 := errV_0 h0
  have HG0 := hide hg0
  have hl := hs.len
  have hk60 : k ≤ 60 := by have := hsr.most; omega
  have HL := hide hl
  rw [a1, errV_0 rfl] at cS
  obtain ⟨k0, hk0⟩ : ∃ k0, k0 = (((sampC ss g.f).1 : Nat) : Int) := ⟨_, rfl⟩
  rw [← hk0] at cS
  have c0 := bg.cell 0; have c1 := bg.cell 1; have c2 := bg.cell 2; have c3 := bg.cell 3
  simp at c0 c1 c2 c3
  obtain ⟨G, hG⟩ : ∃ G : Sm → Int, G = fun s => gevalV g s.r := ⟨_, rfl⟩
  have hGN : ∀ s, gevalV g s.r = G s := fun s => by rw [hG]
  have cEv2 : Hid (∀ (W : World), Below w.heap.size w W → ∀ s ∈ ss, Calls Tryz.prog 32 #[g.val, .slice s.A s.n s.c] W fun e w' => e = .returned (.tuple #[.int .i64 (G s), .nilIface]) ∧ Below W.heap.size W w') := hide (fun W hB s hm => by
    have := unhide cEv W hB s hm
    rw [unhide HST s hm, errV_0 rfl, hGN] at this
    exact this)
  have HVB2 : Hid (∀ s ∈ ss, -1000000000000000 ≤ G s ∧ G s ≤ 1000000000000000) := hide (fun s hm => by have := unhide HVB s hm; rwa [hGN] at this)
  have HNX : Hid (∀ (j : Nat) (s : Sm), ss[j]? = some s → (ss.take (j + 1)).map (fun s => s.t - G s) = (ss.take j).map (fun s => s.t - G s) ++ [s.t - G s]) := hide (fun j s h => by rw [take_next h, List.map_append]; rfl)
  have hGE : (fun s : Sm => s.t - gevalV g s.r) = fun s => s.t - G s := by funext s; rw [hGN]
  rw [hGE]
  rw [gv] at cCk cEv2 ⊢
  clear h0 a1 hk0 hn hsr cEv hv HST HVB hl hG hGN hGE hg0 hW
  obtain ⟨f, way, Aw, nw, cw, ws, At, nt, ct, gts⟩ := g
  dsimp only at bg c0 c1 c2 c3 cCk cS cEv2 HW ⊢
  go_enter Tryz.func13, Tryz.ntmps13
  go_wp2_with fail
  rw [← unhide HW]
  refine (unhide cCk W hb0).mono ?_
  rintro e w1 ⟨rfl, hb1⟩
  have hB1 := hb0.trans (hb1.mono (by omega))
  have c0' : w1.cell? ⟨w.heap.size, 0, none⟩ = some (.int .i64 f) := (hb1.cell (p := ⟨w.heap.size, 0, none⟩) (by show w.heap.size < _; omega)).trans c0
  rw [unhide HG0]
  clear cCk
  go_wp2_with fail
  refine (unhide cS w1 hB1).mono ?_
  rintro e w2 ⟨rfl, hb2⟩
  have hB2 := hB1.trans (hb2.mono hB1.size)
  have hz1 := hb1.size
  have hz2 := hb2.size
  have bg2 : Blk w2 w.heap.size 26 #[.int .i64 f, .int .i64 way, .slice Aw nw cw, .slice At nt ct] := (bg.below hb1 (by omega)).below hb2 (by omega)
  have hgl := bg2.lt
  clear cS c0' c0 c1 c2 c3 bg hb1 hb2 hB1 HG0
  go_wp2_with fail
  go_loopw [9, 31] (fun v i wr => ∃ j : Nat, j ≤ k ∧ i = .int .i64 j ∧ Hid (IOwn wr w2.heap.size v ((ss.take j).map fun s => s.t - G s)) ∧ Below w2.heap.size w2 wr) (fun _ i _ => k - (intOf i).toNat)
  case atStart => exact ⟨0, Nat.zero_le _, rfl, hide (IOwn.nil_ _ _), Below.refl _ _⟩
  case round =>
    obtain ⟨j, hj, rfl, HO, hbel⟩ := hrel
    have hsz := hbel.size
    have hBr := hB2.trans (hbel.mono hB2.size)
    by_cases hlt : j < k
    · obtain ⟨b, o, s, hC, _, hx, c0, c1, hok⟩ := (hs.below hBr).get hlt
      subst hC
      have hm := List.mem_of_getElem? hx
      have HN := hide (unhide HNX j s hx)
      have hgb := unhide HVB2 s hm
      have t1 := (unhide HSR).tlo s hm
      have t2 := (unhide HSR).thi s hm
      have hXB : ∀ ob, Below w.heap.size w (wr.alloc ob) := fun ob => hBr.alloc hBr.size ob
      have cE := hide (fun ob => unhide cEv2 (wr.alloc ob) (hXB ob) s hm)
      obtain ⟨gs, hgs⟩ : ∃ x, x = G s := ⟨_, rfl⟩
      rw [← hgs] at HN hgb cE
      obtain ⟨sA, sn, sc, sr, st⟩ := s
      dsimp only at c0 c1 HN t1 t2 cE
      obtain ⟨L, hL⟩ : ∃ L, L = (ss.take j).map (fun s => s.t - G s) := ⟨_, rfl⟩
      have hLl : L.length = j := by rw [hL, List.length_map, List.length_take, unhide HL]; omega
      rw [← hL] at HN HO
      have hbA := hbel.alloc hsz (.cells #[.slice sA sn sc, .int .i64 st] 40)
      have hOA : Hid (IOwn (wr.alloc (.cells #[.slice sA sn sc, .int .i64 st] 40)) w2.heap.size _ L) := hide ((unhide HO).alloc _)
      have bgX := (bg2.below hbel hgl).alloc (.cells #[.slice sA sn sc, .int .i64 st] 40)
      have bS := Blk.new wr 40 #[.slice sA sn sc, .int .i64 st]
      have g0 := bgX.cell 0; have g1 := bgX.cell 1; have g2 := bgX.cell 2; have g3 := bgX.cell 3
      simp at g0 g1 g2 g3
      have HLl := hide hLl
      have hgl2 : w.heap.size < wr.heap.size := by omega
      clear hx hok hL HO hLl hgs hm
      go_wp2_with fail
      refine (unhide cE _).mono ?_
      rintro e w4 ⟨rfl, hb4⟩
      have hsA : w2.heap.size ≤ (wr.alloc (.cells #[.slice sA sn sc, .int .i64 st] 40)).heap.size := by rw [World.size_alloc]; omega
      have hb4' := hbA.trans (hb4.mono hsA)
      have hown4 : w4.ownsRow w2.heap.size 3 1 _ L.length (L.map (Value.int .i64)) := own_over (unhide hOA) hb4
      rw [unhide HLl] at hown4
      have s1 : w4.cell? ⟨wr.heap.size, 1, none⟩ = some (.int .i64 st) := (hb4.cell (p := ⟨wr.heap.size, 1, none⟩) (by show wr.heap.size < _; rw [World.size_alloc]; omega)).trans (by simp)
      have hz4 : w2.heap.size ≤ w4.heap.size := hb4'.size
      clear hb4 hbA hOA bgX bS g0 g1 g2 g3 cE
      go_wp2_with (at_builtin; refine app_one elem_int (.tmp 45) (.tmp 50) [.int .i64 (st - gs)] rfl rfl rfl hown4 rfl rfl rfl (ints_oneCell .i64 [st - gs]) (by omega) hz4 ?_; intro v5 w5 hown5 hb5 _ _)
      have hown6 : IOwn w5 w2.heap.size v5 ((ss.take (j + 1)).map fun s => s.t - G s) := by
        rw [unhide HN]
        unfold IOwn
        rw [List.length_append, List.map_append, unhide HLl]
        exact hown5
      clear hown5 hown4 s1
      go_wp2_with fail
      go_roundw
      case rel => exact ⟨j + 1, by omega, by go_num, hide hown6, hb4'.trans hb5⟩
      case measure => simp [intOf] <;> omega
    · obtain rfl : j = k := by omega
      rw [List.take_of_length_le (by rw [unhide HL]; exact Nat.le_refl _)] at HO
      go_wp2_with fail
      go_ret2
      exact ⟨_, rfl, (unhide HO).low hB2.size, hBr⟩
end Go.Proofs.YtdpijhnbhopnbaaGreatDoor
/- Package boost in plain words: what is left is what the grove leaves; no round makes it worse. Conditions: none. -/
namespace Go.Proofs.YtdpijhnbhopnbaaGreatDoor
set_option linter.unusedVariables false
set_option linter.unusedSimpArgs false
open Go.RowKit

def sumV (ts : List (List Nd)) (r : List Int) : Int := (ts.map fun t => valAt t (leafOf t r)).sum
theorem sumV_app (a b : List (List Nd)) (r : List Int) : sumV (a ++ b) r = sumV a r + sumV b r := by unfold sumV; rw [List.map_append, List.sum_append]
/-- one more round, or none -/
def moreB (ss : List Sm) (n depth : Nat) (part : Int) (b : BS) : BS :=
  if squaresV b.rest ≤ squaresV (lessV b.rest (roundT ss n depth part b.rest) ss) then b
  else ⟨lessV b.rest (roundT ss n depth part b.rest) ss, b.trees ++ [roundT ss n depth part b.rest]⟩
theorem roundsB_stop {ss : List Sm} {n d : Nat} {part : Int} {b : BS} (h : squaresV b.rest ≤ squaresV (lessV b.rest (roundT ss n d part b.rest) ss)) : ∀ k, roundsB ss n d part k b = b := by
  intro k
  cases k with
  | zero => rfl
  | succ k => rw [roundsB, if_pos h]
theorem roundsB_more {ss : List Sm} {n d : Nat} {part : Int} : ∀ (k : Nat) (b : BS), roundsB ss n d part (k + 1) b = moreB ss n d part (roundsB ss n d part k b) := by
  intro k
  induction k with
  | zero => intro b; rw [roundsB]; rfl
  | succ k ih =>
    intro b
    by_cases h : squaresV b.rest ≤ squaresV (lessV b.rest (roundT ss n d part b.rest) ss)
    · rw [roundsB_stop h, roundsB_stop h]; unfold moreB; rw [if_pos h]
    · rw [roundsB, if_neg h, ih]
      congr 1
      rw [roundsB, if_neg h]
/-- what holds round by round -/
structure BInv (ss : List Sm) (n k : Nat) (b : BS) : Prop where
  rest : b.rest = ss.map fun s => s.t - sumV b.trees s.r
  tree : ∀ t ∈ b.trees, Right t n ∧ ∀ y ∈ t, -1000 ≤ y.v ∧ y.v ≤ 1000
  one : 1 ≤ b.trees.length
  cnt : b.trees.length ≤ k + 1
theorem less_map {ss : List Sm} {f : Sm → Int} {t : List Nd} : lessV (ss.map f) t ss = ss.map fun s => f s - valAt t (leafOf t s.r) := by
  unfold lessV
  induction ss with
  | nil => rfl
  | cons s r ih => rw [List.map_cons, List.zipWith_cons_cons, ih]; rfl
theorem BInv.start {ss : List Sm} {n : Nat} (hs : SRight ss n) : BInv ss n 0 (startBS ss) := by
  refine ⟨?_, fun t ht => ?_, Nat.le_refl _, Nat.le_refl _⟩
  · show lessV (ss.map (·.t)) (firstT ss) ss = _
    rw [less_map]
    refine List.map_congr_left fun s _ => ?_
    simp [startBS, sumV]
  · obtain rfl := List.mem_singleton.1 ht
    exact firstT_right hs
theorem BInv.more {ss : List Sm} {n d k : Nat} {part : Int} {b : BS} (h : BInv ss n k b) (hs : SRight ss n) (hd : d ≤ 4) (h1 : 1 ≤ part) (h2 : part ≤ 100) : BInv ss n (k + 1) (moreB ss n d part b) := by
  unfold moreB
  split
  · exact ⟨h.rest, h.tree, h.one, Nat.le_succ_of_le h.cnt⟩
  · have hl : b.rest.length = ss.length := by rw [h.rest, List.length_map]
    refine ⟨?_, fun t ht => ?_, by simp, by have := h.cnt; simp; omega⟩
    · show lessV b.rest (roundT ss n d part b.rest) ss = ss.map fun s => s.t - sumV (b.trees ++ [roundT ss n d part b.rest]) s.r
      generalize roundT ss n d part b.rest = T
      rw [h.rest, less_map]
      refine List.map_congr_left fun s _ => ?_
      rw [sumV_app]
      simp [sumV]
      omega
    · rcases List.mem_append.1 ht with ht | ht
      · exact h.tree t ht
      · obtain rfl := List.mem_singleton.1 ht
        exact roundT_right hs hl (by omega) h1 h2
theorem BInv.rounds {ss : List Sm} {n d : Nat} {part : Int} (hs : SRight ss n) (hd : d ≤ 4) (h1 : 1 ≤ part) (h2 : part ≤ 100) : ∀ R, BInv ss n R (roundsB ss n d part R (startBS ss)) := by
  intro R
  induction R with
  | zero => exact BInv.start hs
  | succ R ih => rw [roundsB_more]; exact ih.more hs hd h1 h2

theorem zip_ones (L : Int) : ∀ (l : List Int) (m : Nat), l.length = m → pSum ((l.map (· * L)).zip (List.replicate m 1)) = l.sum * L ∧ pAll ((l.map (· * L)).zip (List.replicate m 1)) = (m : Int) := by
  intro l
  induction l with
  | nil => intro m hm; simp at hm; subst hm; simp [pSum, pAll]
  | cons x r ih =>
    intro m hm
    cases m with
    | zero => simp at hm
    | succ m =>
      obtain ⟨a, b⟩ := ih m (by simpa using hm)
      unfold pSum at a
      unfold pAll at b
      unfold pSum pAll
      rw [List.replicate_succ, List.map_cons, List.zip_cons_cons, List.map_cons, List.map_cons, List.sum_cons, List.sum_cons, List.sum_cons, a, b]
      constructor
      · rw [Int.mul_one, Int.add_mul]
      · omega
theorem valAt_re {f : Int → Int} {t : List Nd} {n : Nat} (h : Right t n) (r : List Int) : valAt (t.map (reV f)) (leafOf (t.map (reV f)) r) = f (valAt t (leafOf t r)) := by
  obtain ⟨x, hx, e, _⟩ := valAt_in h r
  have h1 : leafOf (t.map (reV f)) r = leafOf t r := by unfold leafOf; rw [List.length_map, leafFrom_re]
  rw [h1, e]
  unfold valAt
  rw [List.getElem?_map, hx]
  rfl
/-- the grove that was boosted -/
theorem boosted {g : Gv} {ss : List Sm} {n R d : Nat} {part : Int} (hs : SRight ss n) (hd : d ≤ 4) (h1 : 1 ≤ part) (h2 : part ≤ 100) (hR : R ≤ 8) (e1 : g.f = n) (e2 : g.way = 2) (e3 : g.trees = boostTrees ss n R d part) (e4 : g.ws = List.replicate g.trees.length 1) :
    g.e = 0 ∧ (∀ s ∈ ss, gevalV g s.r = sumV (roundsB ss n d part R (startBS ss)).trees s.r) ∧ g.trees.length = (roundsB ss n d part R (startBS ss)).trees.length ∧ 1 ≤ g.trees.length ∧ g.trees.length ≤ 9 := by
  have hI := BInv.rounds hs hd h1 h2 R
  have hlen : g.trees.length = (roundsB ss n d part R (startBS ss)).trees.length := by rw [e3]; unfold boostTrees; rw [List.length_map]
  obtain ⟨B, hB⟩ : ∃ B, B = roundsB ss n d part R (startBS ss) := ⟨_, rfl⟩
  have e3' : g.trees = B.trees.map (endT B.trees.length) := by rw [e3, hB]; rfl
  rw [← hB] at hI hlen ⊢
  have hone := hI.one
  have hcnt := hI.cnt
  have hcap : ∀ t ∈ B.trees, ∀ y ∈ t, capV (y.v * (B.trees.length : Int)) = y.v * (B.trees.length : Int) := fun t ht y hy => by
    have := endF_in (nT := B.trees.length) ((hI.tree t ht).2 y hy) (by omega)
    unfold capV
    omega
  have hE : g.e = 0 := by
    unfold Gv.e groveE
    have h8 := hs.fe8
    rw [e1, e2, if_neg (by omega), if_neg (by omega), if_neg (by omega), if_neg (by omega), if_neg (by omega), if_neg (by omega), if_pos (by rw [e4, List.length_replicate]), if_pos (weightsE_of fun x hx => by rw [e4] at hx; rw [List.eq_of_mem_replicate hx]; omega)]
    refine treesE_of fun t ht => ?_
    rw [e3'] at ht
    obtain ⟨x, hx, rfl⟩ := List.mem_map.1 ht
    exact treeE_right ((hI.tree x hx).1.re (by show capV (0 * _) = 0; rw [Int.zero_mul]; decide) fun y hy => capV_in _)
  refine ⟨hE, fun s hm => ?_, hlen, by omega, by omega⟩
  have hst := stand_samp hE e1 hs hm
  unfold gevalV
  rw [if_pos hst, e2, e4, hlen]
  have he : eachV g s.r = (B.trees.map fun t => valAt t (leafOf t s.r)).map (· * (B.trees.length : Int)) := by
    unfold eachV
    have : (g.ts.map fun t => valAt t.l (leafOf t.l s.r)) = g.trees.map fun t => valAt t (leafOf t s.r) := by unfold Gv.trees; rw [List.map_map]; rfl
    rw [this, e3', List.map_map, List.map_map]
    refine List.map_congr_left fun t ht => ?_
    obtain ⟨x, hx, e, _⟩ := valAt_in (hI.tree t ht).1 s.r
    show valAt (endT B.trees.length t) (leafOf (endT B.trees.length t) s.r) = valAt t (leafOf t s.r) * (B.trees.length : Int)
    unfold endT
    rw [valAt_re (hI.tree t ht).1, e]
    exact hcap t ht x (List.mem_of_getElem? hx)
  obtain ⟨a, b⟩ := zip_ones (B.trees.length : Int) (B.trees.map fun t => valAt t (leafOf t s.r)) B.trees.length (by rw [List.length_map])
  rw [he]
  unfold togV
  rw [if_neg (by decide), if_pos rfl, a, b, Int.mul_ediv_cancel _ (by omega)]
  rfl
theorem boosted_rest {g : Gv} {ss : List Sm} {n R d : Nat} {part : Int} (hs : SRight ss n) (hS : sampE ss n = 0) (hd : d ≤ 4) (h1 : 1 ≤ part) (h2 : part ≤ 100) (hR : R ≤ 8) (e1 : g.f = n) (e2 : g.way = 2) (e3 : g.trees = boostTrees ss n R d part) (e4 : g.ws = List.replicate g.trees.length 1) :
    restE g ss = 0 ∧ restV g ss = (roundsB ss n d part R (startBS ss)).rest := by
  obtain ⟨a, b, _⟩ := boosted hs hd h1 h2 hR e1 e2 e3 e4
  have hE : restE g ss = 0 := by unfold restE; rw [if_pos a, e1, hS]
  refine ⟨hE, ?_⟩
  unfold restV
  rw [if_pos hE, (BInv.rounds hs hd h1 h2 R).rest]
  exact List.map_congr_left fun s hm => by rw [b s hm]
theorem boosted_val {g : Gv} {ss : List Sm} {n R d : Nat} {part : Int} (hs : SRight ss n) (hd : d ≤ 4) (h1 : 1 ≤ part) (h2 : part ≤ 100) (hR : R ≤ 8) (e1 : g.f = n) (e2 : g.way = 2) (e3 : g.trees = boostTrees ss n R d part) (e4 : g.ws = List.replicate g.trees.length 1) :
    ∀ s ∈ ss, -1000000 ≤ gevalV g s.r ∧ gevalV g s.r ≤ 1000000 := by
  obtain ⟨a, b, _⟩ := boosted hs hd h1 h2 hR e1 e2 e3 e4
  intro s hm
  rw [b s hm]
  have hI := BInv.rounds hs hd h1 h2 R
  have key : ∀ (ts : List (List Nd)), (∀ t ∈ ts, Right t n ∧ ∀ y ∈ t, -1000 ≤ y.v ∧ y.v ≤ 1000) → -1000 * (ts.length : Int) ≤ sumV ts s.r ∧ sumV ts s.r ≤ 1000 * (ts.length : Int) := by
    intro ts
    induction ts with
    | nil => intro _; simp [sumV]
    | cons t r ih =>
      intro ht
      obtain ⟨c1, c2⟩ := ih fun t' h' => ht t' (List.mem_cons_of_mem _ h')
      obtain ⟨x, hx, e, _⟩ := valAt_in (ht t (List.mem_cons_self ..)).1 s.r
      have hv := (ht t (List.mem_cons_self ..)).2 x (List.mem_of_getElem? hx)
      unfold sumV at c1 c2 ⊢
      rw [List.map_cons, List.sum_cons, e, List.length_cons]
      omega
  have := key _ hI.tree
  have := hI.cnt
  omega
end Go.Proofs.YtdpijhnbhopnbaaGreatDoor
/- Package boost: Wrong; four samples; a round more. Conditions: samples and a grove that read as data. -/
namespace Go.Proofs.YtdpijhnbhopnbaaGreatDoor
set_option linter.unusedVariables false
set_option linter.unusedSimpArgs false
open Go.RowKit

noncomputable def bwrongV (g : Gv) (ss : List Sm) : Int := if restE g ss = 0 then squaresV (restV g ss) else 0
set_option maxRecDepth 100000 in
set_option maxHeartbeats 2000000 in
theorem bwrong_any (g : Gv) (C : Option Addr) (k c : Nat) (ss : List Sm) (w : World) (hg : GReads w w.heap.size g) (hs : MReads w w.heap.size C k ss) (hk : k ≤ maxLen)
    (hv : ∀ s ∈ ss, standE g s.r = 0 → -1000000000000000 ≤ gevalV g s.r ∧ gevalV g s.r ≤ 1000000000000000) :
    Calls Tryz.prog 14 #[g.val, .slice C k c] w fun e w' => e = .returned (.tuple #[.int .i64 (bwrongV g ss), errV (restE g ss)]) ∧ Below w.heap.size w w' := by
  have cR := hide (fun (W : World) (hB : Below w.heap.size w W) => rest_any g C k c ss W ((hg.below hB).more hB.size) ((hs.below hB).more hB.size) hk hv)
  unfold RestPost at cR
  obtain ⟨W, hW, bg, hWs, hb0⟩ := gbox w g.f g.way g.Aw g.nw g.cw g.At g.nt g.ct
  have HW := hide hW
  have gv : g.val = .agg #[.int .i64 g.f, .int .i64 g.way, .slice g.Aw g.nw g.cw, .slice g.At g.nt g.ct] := rfl
  have hkl := hs.len
  have hlen : (restV g ss).length ≤ k := by
    unfold restV
    split
    · rw [List.length_map, hkl]; exact Nat.le_refl _
    · exact Nat.zero_le _
  by_cases h0 : restE g ss = 0
  · have HE : Hid (bwrongV g ss = squaresV (restV g ss) ∧ errV (restE g ss) = .nilIface) := hide ⟨by unfold bwrongV; rw [if_pos h0], errV_0 h0⟩
    rw [(unhide HE).1, (unhide HE).2]
    rw [(unhide HE).2] at cR
    obtain ⟨L, hL⟩ : ∃ L, L = restV g ss := ⟨_, rfl⟩
    rw [← hL] at cR hlen ⊢
    rw [gv] at cR ⊢
    clear h0 HE hL hW
    go_enter Tryz.func14, Tryz.ntmps14
    go_wp2_with fail
    rw [← unhide HW]
    refine (unhide cR W hb0).mono ?_
    rintro e w1 ⟨v1, rfl, ho1, hb1⟩
    obtain ⟨A1, c1, rfl, hr1, hn1, _, _⟩ := ho1.slice_
    obtain ⟨nl, hnl⟩ : ∃ n, n = L.length := ⟨_, rfl⟩
    rw [← hnl] at hr1 hn1 hlen ⊢
    have hsq := hide (squares_any A1 nl c1 _ L w1 hr1 hn1)
    have hB1 := hb0.trans (hb1.mono (by omega))
    clear ho1 hr1 hb1 hnl cR bg hb0 hWs
    go_wp2_with fail
    refine (unhide hsq).mono ?_
    rintro e w2 ⟨rfl, rfl⟩
    go_wp2_with fail
    go_ret2
    exact ⟨rfl, hB1⟩
  · have HE : Hid (bwrongV g ss = 0) := hide (by unfold bwrongV; rw [if_neg h0])
    have hv2 := errV_1 h0
    rw [unhide HE]
    obtain ⟨E, hE⟩ : ∃ E, E = errV (restE g ss) := ⟨_, rfl⟩
    rw [← hE] at cR hv2 ⊢
    have HV := hide hv2
    rw [gv] at cR ⊢
    clear h0 HE hE hW hv2
    go_enter Tryz.func14, Tryz.ntmps14
    go_wp2_with fail
    rw [← unhide HW]
    refine (unhide cR W hb0).mono ?_
    rintro e w1 ⟨v1, rfl, ho1, hb1⟩
    obtain ⟨A1, c1, rfl, hr1, hn1, _, _⟩ := ho1.slice_
    have hB1 := hb0.trans (hb1.mono (by omega))
    clear ho1 hr1 hb1 cR bg hb0 hWs
    rw [unhide HV]
    go_wp2_with fail
    go_ret2
    exact ⟨by rw [unhide HV]; rfl, hB1⟩

/-! ### four samples -/
def fourS (A B C D : Option Addr) : List Sm := [⟨A, 1, 1, [1], 0⟩, ⟨B, 1, 1, [2], 0⟩, ⟨C, 1, 1, [3], 8⟩, ⟨D, 1, 1, [4], 8⟩]
theorem four_cuts (A B C D : Option Addr) : cutsF (reS [-4, -4, 4, 4] (fourS A B C D)) 0 = [2, 3, 4] := by
  unfold cutsF
  rw [show (reS [-4, -4, 4, 4] (fourS A B C D)).map (cellS 0) = [1, 2, 3, 4] from rfl, show sortL [1, 2, 3, 4] = [1, 2, 3, 4] from (sortL_of (List.Perm.refl _) (by simp)).symm, show compactL [1, 2, 3, 4] = [1, 2, 3, 4] by decide]
  rfl
theorem four_best (A B C D : Option Addr) : bestB (reS [-4, -4, 4, 4] (fourS A B C D)) 1 1 = ⟨0, 3, 256, 4⟩ := by
  show bestF _ 1 (startB _) 0 = _
  unfold bestF
  rw [four_cuts]
  kernel_rfl
theorem four_round (A B C D : Option Addr) : roundT (fourS A B C D) 1 1 100 [-4, -4, 4, 4] = [⟨0, 3, 1, 2, false, 0⟩, ⟨-1, 0, 0, 0, false, -4⟩, ⟨-1, 0, 0, 0, false, 4⟩] := by
  unfold roundT
  simp only [growK]
  rw [four_best]
  kernel_rfl
theorem four_rounds (A B C D : Option Addr) : (roundsB (fourS A B C D) 1 1 100 1 (startBS (fourS A B C D))).rest = [0, 0, 0, 0] ∧ (roundsB (fourS A B C D) 1 1 100 1 (startBS (fourS A B C D))).trees.length = 2 := by
  have h1 : (startBS (fourS A B C D)).rest = [-4, -4, 4, 4] := by kernel_rfl
  have h2 : lessV [-4, -4, 4, 4] [⟨0, 3, 1, 2, false, 0⟩, ⟨-1, 0, 0, 0, false, -4⟩, ⟨-1, 0, 0, 0, false, 4⟩] (fourS A B C D) = [0, 0, 0, 0] := by kernel_rfl
  rw [roundsB_more]
  show (moreB _ _ _ _ (startBS (fourS A B C D))).rest = _ ∧ (moreB _ _ _ _ (startBS (fourS A B C D))).trees.length = _
  unfold moreB
  rw [h1, four_round, h2, if_neg (by decide)]
  exact ⟨rfl, rfl⟩
theorem four_E (A B C D : Option Addr) : boostE (fourS A B C D) 1 1 1 100 = 0 := by kernel_rfl
theorem four_S (A B C D : Option Addr) : sampE (fourS A B C D) 1 = 0 := by kernel_rfl
theorem four_reads (w : World) : ∃ W, W = ((((w.alloc (.cells #[.int .i64 1] 3)).alloc (.cells #[.int .i64 2] 3)).alloc (.cells #[.int .i64 3] 3)).alloc (.cells #[.int .i64 4] 3)).alloc (.cells #[.slice (some ⟨w.heap.size, 0, none⟩) 1 1, .int .i64 0, .slice (some ⟨w.heap.size + 1, 0, none⟩) 1 1, .int .i64 0, .slice (some ⟨w.heap.size + 2, 0, none⟩) 1 1, .int .i64 8, .slice (some ⟨w.heap.size + 3, 0, none⟩) 1 1, .int .i64 8] 40) ∧
    MReads W W.heap.size (some ⟨w.heap.size + 4, 0, none⟩) 4 (fourS (some ⟨w.heap.size, 0, none⟩) (some ⟨w.heap.size + 1, 0, none⟩) (some ⟨w.heap.size + 2, 0, none⟩) (some ⟨w.heap.size + 3, 0, none⟩)) ∧ Below w.heap.size w W := by
  refine ⟨_, rfl, ⟨?_, ?_⟩, (((((Below.refl _ _).alloc (Nat.le_refl _) _).alloc (by simp) _).alloc (by simp; omega) _).alloc (by simp; omega) _).alloc (by simp; omega) _⟩
  · have := Reads.new_ ((((w.alloc (.cells #[.int .i64 1] 3)).alloc (.cells #[.int .i64 2] 3)).alloc (.cells #[.int .i64 3] 3)).alloc (.cells #[.int .i64 4] 3)) 2 4 [.slice (some ⟨w.heap.size, 0, none⟩) 1 1, .int .i64 0, .slice (some ⟨w.heap.size + 1, 0, none⟩) 1 1, .int .i64 0, .slice (some ⟨w.heap.size + 2, 0, none⟩) 1 1, .int .i64 8, .slice (some ⟨w.heap.size + 3, 0, none⟩) 1 1, .int .i64 8] 40 rfl
    simp only [World.size_alloc] at this ⊢
    exact this
  · intro s hs
    have r1 := Reads.new_ w 1 1 [.int .i64 1] 3 rfl
    have r2 := Reads.new_ (w.alloc (.cells #[.int .i64 1] 3)) 1 1 [.int .i64 2] 3 rfl
    have r3 := Reads.new_ ((w.alloc (.cells #[.int .i64 1] 3)).alloc (.cells #[.int .i64 2] 3)) 1 1 [.int .i64 3] 3 rfl
    have r4 := Reads.new_ (((w.alloc (.cells #[.int .i64 1] 3)).alloc (.cells #[.int .i64 2] 3)).alloc (.cells #[.int .i64 3] 3)) 1 1 [.int .i64 4] 3 rfl
    simp only [World.size_alloc] at r2 r3 r4 ⊢
    simp only [fourS, List.mem_cons, List.not_mem_nil, or_false] at hs
    rcases hs with rfl | rfl | rfl | rfl
    · exact ⟨((((r1.alloc (by simp) _).alloc (by simp) _).alloc (by simp) _).alloc (by simp) _).more (by omega), by show (1 : Nat) ≤ maxLen; decide⟩
    · exact ⟨(((r2.alloc (by simp) _).alloc (by simp) _).alloc (by simp) _).more (by omega), by show (1 : Nat) ≤ maxLen; decide⟩
    · exact ⟨((r3.alloc (by simp) _).alloc (by simp) _).more (by omega), by show (1 : Nat) ≤ maxLen; decide⟩
    · exact ⟨(r4.alloc (by simp) _).more (by omega), by show (1 : Nat) ≤ maxLen; decide⟩

/-- a round more -/
theorem learns {ss : List Sm} {n d R : Nat} {part : Int} (hR : 1 ≤ R) :
    (roundsB ss n d part R (startBS ss) = roundsB ss n d part (R - 1) (startBS ss)) ∨
    ∃ t, (roundsB ss n d part R (startBS ss)).trees = (roundsB ss n d part (R - 1) (startBS ss)).trees ++ [t] ∧ squaresV (roundsB ss n d part R (startBS ss)).rest < squaresV (roundsB ss n d part (R - 1) (startBS ss)).rest := by
  obtain ⟨k, rfl⟩ : ∃ k, R = k + 1 := ⟨R - 1, by omega⟩
  rw [Nat.add_sub_cancel, roundsB_more]
  generalize roundsB ss n d part k (startBS ss) = c
  unfold moreB
  by_cases h : squaresV c.rest ≤ squaresV (lessV c.rest (roundT ss n d part c.rest) ss)
  · rw [if_pos h]; exact .inl rfl
  · rw [if_neg h]; exact .inr ⟨_, rfl, by dsimp only; omega⟩
end Go.Proofs.YtdpijhnbhopnbaaGreatDoor
/- grove.Bounds: contract. Conditions: an argument that reads as a grove. -/
namespace Go.Proofs.YtdpijhnbhopnbaaGreatDoor
set_option linter.unusedVariables false
set_option linter.unusedSimpArgs false
open Go.RowKit

def leafVals (t : List Nd) : List Int := (t.filter fun n => n.f == -1).map (·.v)
theorem leafVals_next {t : List Nd} {k : Nat} {n : Nd} (h : t[k]? = some n) : leafVals (t.take (k + 1)) = leafVals (t.take k) ++ (if n.f = -1 then [n.v] else []) := by
  unfold leafVals
  rw [take_next h, List.filter_append, List.map_append]
  congr 1
  by_cases hf : n.f = -1 <;> simp [hf]
theorem leafVals_in {t : List Nd} {fe : Int} (h : Right t fe) : leafVals t ≠ [] ∧ ∀ x ∈ leafVals t, -1000000 ≤ x ∧ x ≤ 1000000 := by
  constructor
  · obtain ⟨n, hn, hf, _⟩ := leaf_in (r := []) h
    intro e
    have : n.v ∈ leafVals t := List.mem_map.2 ⟨n, List.mem_filter.2 ⟨List.mem_of_getElem? hn, by simpa using hf⟩, rfl⟩
    rw [e] at this; cases this
  · intro x hx
    obtain ⟨n, hn, rfl⟩ := List.mem_map.1 hx
    obtain ⟨hn, hf⟩ := List.mem_filter.1 hn
    obtain ⟨i, hi⟩ := List.mem_iff_getElem?.1 hn
    have hf : n.f = -1 := by simpa using hf
    rcases node_of (h.node i n hi) with h1 | h1
    · exact ⟨h1.2.1, h1.2.2.1⟩
    · omega
theorem iown_app {w' : World} {base : Nat} {v' : Value} {l : List Int} {x : Int} (h : w'.ownsRow base 3 1 v' (l.length + 1) (l.map (Value.int .i64) ++ [.int .i64 x])) : IOwn w' base v' (l ++ [x]) := by
  unfold IOwn
  rw [List.length_append, List.map_append]
  exact h
noncomputable def boundsV (g : Gv) : Int × Int := if g.e = 0 then betwV g.way g.ws (g.ts.map fun t => Lib.minOf (leafVals t.l)) (g.ts.map fun t => Lib.maxOf (leafVals t.l)) else (0, 0)

end Go.Proofs.YtdpijhnbhopnbaaGreatDoor
