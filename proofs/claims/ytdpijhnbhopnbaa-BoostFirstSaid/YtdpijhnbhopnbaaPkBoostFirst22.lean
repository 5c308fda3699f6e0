/- Part 22 of what LawBoostFirst needs: BoostE, BoostFirst, Args2. Conditions: as each lemma names. -/
import Derived.Test.YtdpijhnbhopnbaaPkBoostFirst19
import Derived.Test.YtdpijhnbhopnbaaPkBoostFirst21
import Derived.Test.YtdpijhnbhopnbaaPkBoostFirst07
import Derived.Test.YtdpijhnbhopnbaaPkBoostFirst05
import Derived.Test.YtdpijhnbhopnbaaPkBoostFirst02
import Derived.Deep.Slices
/- Package boost: Fit, what is wrong; Rest. Conditions: samples and a grove that read as data. -/
namespace Go.Proofs.Ytdpijhnbhopnbaa
set_option linter.unusedVariables false
set_option linter.unusedSimpArgs false
open Go.RowKit

theorem boostPost_zero {ss : List Sm} {fe rounds depth part x : Int} {w w' : World} (hx : boostE ss fe rounds depth part = x) (h0 : x ≠ 0) (hb : Below w.heap.size w w') : BoostPost ss fe rounds depth part w (.returned (.tuple #[.agg #[.int .i64 0, .int .i64 0, .slice none 0 0, .slice none 0 0], errV x])) w' :=
  ⟨⟨0, 0, none, 0, 0, [], none, 0, 0, []⟩, by rw [hx]; rfl, ⟨IReads.nil_, ⟨Reads.none_, fun r hr => by cases hr⟩, Nat.zero_le _, Nat.zero_le _, fun _ => rfl, fun _ => rfl⟩, hb, fun h => absurd (hx.symm.trans h) h0, fun _ => ⟨rfl, rfl, rfl, rfl⟩⟩

set_option maxRecDepth 100000 in
set_option maxHeartbeats 8000000 in
theorem boostFitE_any (A : Option Addr) (m c : Nat) (fe rounds depth part : Int) (ss : List Sm) (w : World) (h : MReads w w.heap.size A m ss) (hm : m ≤ maxLen) (hE : boostE ss fe rounds depth part ≠ 0) :
    Calls Try.prog 13 #[.slice A m c, .int .i64 fe, .int .i64 rounds, .int .i64 depth, .int .i64 part] w (BoostPost ss fe rounds depth part w) := by
  have cCk := hide (gCheck_any A m c fe ss (w.alloc (.cells #[.int .i64 0, .int .i64 0, .slice none 0 0, .slice none 0 0] 46)) ((h.below ((Below.refl _ _).alloc (Nat.le_refl _) _)).more (by simp)) hm)
  unfold MCheckPost at cCk
  obtain ⟨k0, hk0⟩ : ∃ k0, k0 = (((sampC ss fe).1 : Nat) : Int) := ⟨_, rfl⟩
  rw [← hk0] at cCk
  clear hk0
  obtain ⟨W, hW⟩ : ∃ W, W = w.alloc (.cells #[.int .i64 0, .int .i64 0, .slice none 0 0, .slice none 0 0] 46) := ⟨_, rfl⟩
  have b0 : Blk W w.heap.size 46 #[.int .i64 0, .int .i64 0, .slice none 0 0, .slice none 0 0] := by rw [hW]; exact Blk.new _ _ _
  have hb0 : Below w.heap.size w W := by rw [hW]; exact (Below.refl _ _).alloc (Nat.le_refl _) _
  have hWs : W.heap.size = w.heap.size + 1 := by rw [hW]; simp
  have HWe := hide hW
  rw [← hW] at cCk
  clear hW
  have key : Hid (∀ w1 : World, Below W.heap.size W w1 → Blk w1 w.heap.size 46 #[.int .i64 0, .int .i64 0, .slice none 0 0, .slice none 0 0] ∧ Below w.heap.size w ((((w1.setCell ⟨w.heap.size, 0, none⟩ (.int .i64 0)).setCell ⟨w.heap.size, 1, none⟩ (.int .i64 0)).setCell ⟨w.heap.size, 2, none⟩ (.slice none 0 0)).setCell ⟨w.heap.size, 3, none⟩ (.slice none 0 0))) := hide (fun w1 hb1 => by
    refine ⟨b0.below hb1 (by omega), ?_⟩
    have hB := hb0.trans (hb1.mono (by omega))
    exact (((hB.setCell (p := ⟨w.heap.size, 0, none⟩) (Nat.le_refl _) _).setCell (p := ⟨w.heap.size, 1, none⟩) (Nat.le_refl _) _).setCell (p := ⟨w.heap.size, 2, none⟩) (Nat.le_refl _) _).setCell (p := ⟨w.heap.size, 3, none⟩) (Nat.le_refl _) _)
  by_cases a1 : sampE ss fe = 0
  case neg =>
    have HZ : Hid (boostE ss fe rounds depth part = sampE ss fe) := hide (by unfold boostE; rw [if_neg a1])
    have hv := errV_1 a1
    have HV := hide hv
    have HA := hide a1
    clear a1 hE b0 hb0 hWs
    go_enter Try.func13, Try.ntmps13
    go_wp2_with fail
    rw [← unhide HWe]
    refine (unhide cCk).mono ?_
    rintro e w1 ⟨rfl, hb1⟩
    obtain ⟨bk, hBF⟩ := unhide key w1 hb1
    have c0 := bk.cell 0; have c1 := bk.cell 1; have c2 := bk.cell 2; have c3 := bk.cell 3
    have f0 := bk.frozen 0; have f1 := bk.frozen 1; have f2 := bk.frozen 2; have f3 := bk.frozen 3
    simp at c0 c1 c2 c3
    have bF := (((bk.set_ 0 (.int .i64 0)).set_ 1 (.int .i64 0)).set_ 2 (.slice none 0 0)).set_ 3 (.slice none 0 0)
    simp at bF
    have HBF := hide hBF
    have HbF := hide bF
    clear bk hBF bF cCk key hb1
    rw [hv]
    clear hv
    go_wp2_with fail
    refine bodyPost_nameB fun WF hWF => ?_
    rw [← hWF] at HBF HbF
    clear hWF c0 c1 c2 c3 f0 f1 f2 f3
    have k0 := (unhide HbF).cell 0
    have k1 := (unhide HbF).cell 1
    have k2 := (unhide HbF).cell 2
    have k3 := (unhide HbF).cell 3
    simp at k0 k1 k2 k3
    have hP := boostPost_zero (unhide HZ) (unhide HA) (unhide HBF)
    rw [unhide HV] at hP
    exact bodyPost_ret (v := .tuple #[.agg #[.int .i64 0, .int .i64 0, .slice none 0 0, .slice none 0 0], .iface 57 (.int .i64 (sampE ss fe))]) (by simp [results, Try.results13, go_sem, k0, k1, k2, k3]) rfl hP
  have hbad : rounds < 0 ∨ 8 < rounds ∨ depth < 1 ∨ 4 < depth ∨ part < 1 ∨ 100 < part := by
    unfold boostE at hE
    rw [if_pos a1] at hE
    exact Decidable.byContradiction fun hn => hE (by rw [if_neg hn])
  have HZ : Hid (boostE ss fe rounds depth part = 1) := hide (by unfold boostE; rw [if_pos a1, if_pos hbad])
  rw [a1, errV_0 rfl] at cCk
  have hcomb : ∃ b : Bool, b = true ∧ ((decide (rounds < 0) || decide (8 < rounds) || decide (depth < 1) || decide (4 < depth) || decide (part < 1) || decide (100 < part)) = b) := ⟨_, rfl, by simp; omega⟩
  have HCB := hide hcomb
  have HBAD := hide hbad
  clear a1 hE b0 hb0 hWs hcomb hbad
  go_enter Try.func13, Try.ntmps13
  go_wp2_with fail
  rw [← unhide HWe]
  refine (unhide cCk).mono ?_
  rintro e w1 ⟨rfl, hb1⟩
  obtain ⟨bk, hBF⟩ := unhide key w1 hb1
  have c0 := bk.cell 0; have c1 := bk.cell 1; have c2 := bk.cell 2; have c3 := bk.cell 3
  have f0 := bk.frozen 0; have f1 := bk.frozen 1; have f2 := bk.frozen 2; have f3 := bk.frozen 3
  simp at c0 c1 c2 c3
  have bF := (((bk.set_ 0 (.int .i64 0)).set_ 1 (.int .i64 0)).set_ 2 (.slice none 0 0)).set_ 3 (.slice none 0 0)
  simp at bF
  have HBF := hide hBF
  have HbF := hide bF
  clear bk hBF bF cCk key hb1
  go_upto_region 4 with (fail)
  go_cut [59] from 38 to 59 (fun s wx => s = .bool true ∧ wx = w1)
  case first =>
    by_cases h1 : rounds < 0
    · have d1 : decide (rounds < 0) = true := decide_eq_true h1
      clear h1
      go_wp2_with fail
      go_meet
      case rel => exact ⟨rfl, rfl⟩
    have d1 : decide (rounds < 0) = false := decide_eq_false h1
    by_cases h2 : 8 < rounds
    · have d2 : decide (8 < rounds) = true := decide_eq_true h2
      clear h1 h2
      go_wp2_with fail
      go_meet
      case rel => exact ⟨rfl, rfl⟩
    have d2 : decide (8 < rounds) = false := decide_eq_false h2
    by_cases h3 : depth < 1
    · have d3 : decide (depth < 1) = true := decide_eq_true h3
      clear h1 h2 h3
      go_wp2_with fail
      go_meet
      case rel => exact ⟨rfl, rfl⟩
    have d3 : decide (depth < 1) = false := decide_eq_false h3
    by_cases h4 : 4 < depth
    · have d4 : decide (4 < depth) = true := decide_eq_true h4
      clear h1 h2 h3 h4
      go_wp2_with fail
      go_meet
      case rel => exact ⟨rfl, rfl⟩
    have d4 : decide (4 < depth) = false := decide_eq_false h4
    by_cases h5 : part < 1
    · have d5 : decide (part < 1) = true := decide_eq_true h5
      clear h1 h2 h3 h4 h5
      go_wp2_with fail
      go_meet
      case rel => exact ⟨rfl, rfl⟩
    have d5 : decide (part < 1) = false := decide_eq_false h5
    have d6 : decide (100 < part) = true := decide_eq_true (by have := unhide HBAD; omega)
    clear h1 h2 h3 h4 h5
    go_wp2_with fail
    go_meet
    case rel => exact ⟨rfl, rfl⟩
  case rest =>
    obtain ⟨rfl, rfl⟩ := hcut
    go_wp2_with fail
    refine bodyPost_nameB fun WF hWF => ?_
    rw [← hWF] at HBF HbF
    clear hWF c0 c1 c2 c3 f0 f1 f2 f3
    have k0 := (unhide HbF).cell 0
    have k1 := (unhide HbF).cell 1
    have k2 := (unhide HbF).cell 2
    have k3 := (unhide HbF).cell 3
    simp at k0 k1 k2 k3
    have hP := boostPost_zero (unhide HZ) (by decide) (unhide HBF)
    exact bodyPost_ret (v := .tuple #[.agg #[.int .i64 0, .int .i64 0, .slice none 0 0, .slice none 0 0], .iface 57 (.int .i64 1)]) (by simp [results, Try.results13, go_sem, k0, k1, k2, k3]) rfl hP
theorem boost_any (A : Option Addr) (m c : Nat) (fe rounds depth part : Int) (ss : List Sm) (w : World) (h : MReads w w.heap.size A m ss) (hm : m ≤ maxLen) :
    Calls Try.prog 13 #[.slice A m c, .int .i64 fe, .int .i64 rounds, .int .i64 depth, .int .i64 part] w (BoostPost ss fe rounds depth part w) := by
  by_cases hE : boostE ss fe rounds depth part = 0
  · exact boostFit_any A m c fe rounds depth part ss w h hm hE
  · exact boostFitE_any A m c fe rounds depth part ss w h hm hE

/-! ### what is left -/
def restE (g : Gv) (ss : List Sm) : Int := if g.e = 0 then sampE ss g.f else g.e
noncomputable def restV (g : Gv) (ss : List Sm) : List Int := if restE g ss = 0 then ss.map fun s => s.t - gevalV g s.r else []
theorem samp_row {ss : List Sm} {n : Nat} (hs : SRight ss n) {s : Sm} (h : s ∈ ss) : rowE s.r = 0 :=
  rowE_good (fun x hx => rowGood_cell (hs.cell s h x hx).1 (hs.cell s h x hx).2) (by have := hs.len s h; have := hs.fe8; omega)
theorem stand_samp {g : Gv} {ss : List Sm} {n : Nat} (hg : g.e = 0) (hn : g.f = n) (hs : SRight ss n) {s : Sm} (h : s ∈ ss) : standE g s.r = 0 := by
  unfold standE
  rw [if_pos hg, if_pos (samp_row hs h), if_pos (by rw [hs.len s h, hn])]
theorem rest_next {g : Gv} {ss : List Sm} {k : Nat} {s : Sm} (h : ss[k]? = some s) : (ss.take (k + 1)).map (fun s => s.t - gevalV g s.r) = (ss.take k).map (fun s => s.t - gevalV g s.r) ++ [s.t - gevalV g s.r] := by rw [take_next h, List.map_append]; rfl
def RestPost (g : Gv) (ss : List Sm) (w : World) (e : Ending) (w' : World) : Prop := ∃ v, e = .returned (.tuple #[v, errV (restE g ss)]) ∧ IOwn w' w.heap.size v (restV g ss) ∧ Below w.heap.size w w'

set_option maxRecDepth 100000 in
set_option maxHeartbeats 4000000 in
theorem rest_any (g : Gv) (C : Option Addr) (k c : Nat) (ss : List Sm) (w : World) (hg : GReads w w.heap.size g) (hs : MReads w w.heap.size C k ss) (hk : k ≤ maxLen)
    (hv : ∀ s ∈ ss, standE g s.r = 0 → -1000000000000000 ≤ gevalV g s.r ∧ gevalV g s.r ≤ 1000000000000000) :
    Calls Try.prog 17 #[g.val, .slice C k c] w (RestPost g ss w) := by
  have cCk := hide (fun (W : World) (hB : Below w.heap.size w W) => gcheck_any g W ((hg.below hB).more hB.size))
  have cS := hide (fun (W : World) (hB : Below w.heap.size w W) => gCheck_any C k c g.f ss W ((hs.below hB).more hB.size) hk)
  unfold MCheckPost at cS
  have cEv := hide (fun (W : World) (hB : Below w.heap.size w W) (s : Sm) (hm : s ∈ ss) => geval_any g s.A s.n s.c s.r W ((hg.below hB).more hB.size) (((hs.2 s hm).reads.below hB).more hB.size) (hs.2 s hm).len)
  obtain ⟨W, hW, bg, hWs, hb0⟩ := gbox w g.f g.way g.Aw g.nw g.cw g.At g.nt g.ct
  have HW := hide hW
  have gv : g.val = .agg #[.int .i64 g.f, .int .i64 g.way, .slice g.Aw g.nw g.cw, .slice g.At g.nt g.ct] := rfl
  by_cases h0 : g.e = 0
  case neg =>
    have HP : Hid (RestPost g ss w = fun e w' => ∃ v, e = .returned (.tuple #[v, errV g.e]) ∧ IOwn w' w.heap.size v [] ∧ Below w.heap.size w w') := hide (by
      funext e w'
      have h1 : restE g ss = g.e := by unfold restE; rw [if_neg h0]
      have h2 : restV g ss = [] := by unfold restV; rw [h1, if_neg h0]
      unfold RestPost
      rw [h1, h2])
    rw [unhide HP]
    have hv2 := errV_1 h0
    have HV := hide hv2
    obtain ⟨E, hE⟩ : ∃ E, E = errV g.e := ⟨_, rfl⟩
    rw [← hE] at cCk hv2 ⊢
    have HV2 := hide hv2
    rw [gv] at cCk ⊢
    clear h0 HV hE cS cEv hW hv2
    go_enter Try.func17, Try.ntmps17
    go_wp2_with fail
    rw [← unhide HW]
    refine (unhide cCk W hb0).mono ?_
    rintro e w1 ⟨rfl, hb1⟩
    have hB1 := hb0.trans (hb1.mono (by omega))
    clear cCk bg hb0 hb1 hWs
    rw [unhide HV2]
    go_wp2_with fail
    go_ret2
    exact ⟨_, by rw [unhide HV2]; rfl, IOwn.nil_ _ _, hB1⟩
  by_cases a1 : sampE ss g.f = 0
  case neg =>
    have HP : Hid (RestPost g ss w = fun e w' => ∃ v, e = .returned (.tuple #[v, errV (sampE ss g.f)]) ∧ IOwn w' w.heap.size v [] ∧ Below w.heap.size w w') := hide (by
      funext e w'
      have h1 : restE g ss = sampE ss g.f := by unfold restE; rw [if_pos h0]
      have h2 : restV g ss = [] := by unfold restV; rw [h1, if_neg a1]
      unfold RestPost
      rw [h1, h2])
    rw [unhide HP]
    have hv2 := errV_1 a1
    have hg0 := errV_0 h0
    have HG0 := hide hg0
    obtain ⟨k0, hk0⟩ : ∃ k0, k0 = (((sampC ss g.f).1 : Nat) : Int) := ⟨_, rfl⟩
    rw [← hk0] at cS
    obtain ⟨E, hE⟩ : ∃ E, E = errV (sampE ss g.f) := ⟨_, rfl⟩
    rw [← hE] at cS hv2 ⊢
    have HV2 := hide hv2
    have c0 := bg.cell 0
    simp at c0
    rw [gv] at cCk ⊢
    clear h0 hE cEv hW hv2 a1 hk0 hg0
    go_enter Try.func17, Try.ntmps17
    go_wp2_with fail
    rw [← unhide HW]
    refine (unhide cCk W hb0).mono ?_
    rintro e w1 ⟨rfl, hb1⟩
    have hB1 := hb0.trans (hb1.mono (by omega))
    have c0' : w1.cell? ⟨w.heap.size, 0, none⟩ = some (.int .i64 g.f) := (hb1.cell (p := ⟨w.heap.size, 0, none⟩) (by show w.heap.size < _; omega)).trans c0
    clear cCk bg hb0 hb1 hWs c0
    rw [unhide HG0]
    go_wp2_with fail
    refine (unhide cS w1 hB1).mono ?_
    rintro e w2 ⟨rfl, hb2⟩
    rw [unhide HV2]
    go_wp2_with fail
    go_ret2
    exact ⟨_, by rw [unhide HV2]; rfl, IOwn.nil_ _ _, hB1.trans (hb2.mono hB1.size)⟩
  obtain ⟨n, hn, hsr⟩ := samp_right a1
  have HP : Hid (RestPost g ss w = fun e w' => ∃ v, e = .returned (.tuple #[v, .nilIface]) ∧ IOwn w' w.heap.size v (ss.map fun s => s.t - gevalV g s.r) ∧ Below w.heap.size w w') := hide (by
    funext e w'
    have h1 : restE g ss = 0 := by unfold restE; rw [if_pos h0, a1]
    have h2 : restV g ss = ss.map fun s => s.t - gevalV g s.r := by unfold restV; rw [h1, if_pos rfl]
    unfold RestPost
    rw [h1, h2, errV_0 rfl])
  rw [unhide HP]
  have HST : Hid (∀ s ∈ ss, standE g s.r = 0) := hide (fun s hm => stand_samp h0 hn hsr hm)
  have HVB : Hid (∀ s ∈ ss, -1000000000000000 ≤ gevalV g s.r ∧ gevalV g s.r ≤ 1000000000000000) := hide (fun s hm => hv s hm (unhide HST s hm))
  have HSR := hide hsr
  have hg0 := errV_0 h0
  have HG0 := hide hg0
  have hl := hs.len
  have hk60 : k ≤ 60 := by have := hsr.most; omega
  have HL := hide hl
  rw [a1, errV_0 rfl] at cS
  obtain ⟨k0, hk0⟩ : ∃ k0, k0 = (((sampC ss g.f).1 : Nat) : Int) := ⟨_, rfl⟩
  rw [← hk0] at cS
  have c0 := bg.cell 0; have c1 := bg.cell 1; have c2 := bg.cell 2; have c3 := bg.cell 3
  simp at c0 c1 c2 c3
  obtain ⟨G, hG⟩ : ∃ G : Sm → Int, G = fun s => gevalV g s.r := ⟨_, rfl⟩
  have hGN : ∀ s, gevalV g s.r = G s := fun s => by rw [hG]
  have cEv2 : Hid (∀ (W : World), Below w.heap.size w W → ∀ s ∈ ss, Calls Try.prog 31 #[g.val, .slice s.A s.n s.c] W fun e w' => e = .returned (.tuple #[.int .i64 (G s), .nilIface]) ∧ Below W.heap.size W w') := hide (fun W hB s hm => by
    have := unhide cEv W hB s hm
    rw [unhide HST s hm, errV_0 rfl, hGN] at this
    exact this)
  have HVB2 : Hid (∀ s ∈ ss, -1000000000000000 ≤ G s ∧ G s ≤ 1000000000000000) := hide (fun s hm => by have := unhide HVB s hm; rwa [hGN] at this)
  have HNX : Hid (∀ (j : Nat) (s : Sm), ss[j]? = some s → (ss.take (j + 1)).map (fun s => s.t - G s) = (ss.take j).map (fun s => s.t - G s) ++ [s.t - G s]) := hide (fun j s h => by rw [take_next h, List.map_append]; rfl)
  have hGE : (fun s : Sm => s.t - gevalV g s.r) = fun s => s.t - G s := by funext s; rw [hGN]
  rw [hGE]
  rw [gv] at cCk cEv2 ⊢
  clear h0 a1 hk0 hn hsr cEv hv HST HVB hl hG hGN hGE hg0 hW
  obtain ⟨f, way, Aw, nw, cw, ws, At, nt, ct, gts⟩ := g
  dsimp only at bg c0 c1 c2 c3 cCk cS cEv2 HW ⊢
  go_enter Try.func17, Try.ntmps17
  go_wp2_with fail
  rw [← unhide HW]
  refine (unhide cCk W hb0).mono ?_
  rintro e w1 ⟨rfl, hb1⟩
  have hB1 := hb0.trans (hb1.mono (by omega))
  have c0' : w1.cell? ⟨w.heap.size, 0, none⟩ = some (.int .i64 f) := (hb1.cell (p := ⟨w.heap.size, 0, none⟩) (by show w.heap.size < _; omega)).trans c0
  rw [unhide HG0]
  clear cCk
  go_wp2_with fail
  refine (unhide cS w1 hB1).mono ?_
  rintro e w2 ⟨rfl, hb2⟩
  have hB2 := hB1.trans (hb2.mono hB1.size)
  have hz1 := hb1.size
  have hz2 := hb2.size
  have bg2 : Blk w2 w.heap.size 46 #[.int .i64 f, .int .i64 way, .slice Aw nw cw, .slice At nt ct] := (bg.below hb1 (by omega)).below hb2 (by omega)
  have hgl := bg2.lt
  clear cS c0' c0 c1 c2 c3 bg hb1 hb2 hB1 HG0
  go_wp2_with fail
  go_loopw [9, 31] (fun v i wr => ∃ j : Nat, j ≤ k ∧ i = .int .i64 j ∧ Hid (IOwn wr w2.heap.size v ((ss.take j).map fun s => s.t - G s)) ∧ Below w2.heap.size w2 wr) (fun _ i _ => k - (intOf i).toNat)
  case atStart => exact ⟨0, Nat.zero_le _, rfl, hide (IOwn.nil_ _ _), Below.refl _ _⟩
  case round =>
    obtain ⟨j, hj, rfl, HO, hbel⟩ := hrel
    have hsz := hbel.size
    have hBr := hB2.trans (hbel.mono hB2.size)
    by_cases hlt : j < k
    · obtain ⟨b, o, s, hC, _, hx, c0, c1, hok⟩ := (hs.below hBr).get hlt
      subst hC
      have hm := List.mem_of_getElem? hx
      have HN := hide (unhide HNX j s hx)
      have hgb := unhide HVB2 s hm
      have t1 := (unhide HSR).tlo s hm
      have t2 := (unhide HSR).thi s hm
      have hXB : ∀ ob, Below w.heap.size w (wr.alloc ob) := fun ob => hBr.alloc hBr.size ob
      have cE := hide (fun ob => unhide cEv2 (wr.alloc ob) (hXB ob) s hm)
      obtain ⟨gs, hgs⟩ : ∃ x, x = G s := ⟨_, rfl⟩
      rw [← hgs] at HN hgb cE
      obtain ⟨sA, sn, sc, sr, st⟩ := s
      dsimp only at c0 c1 HN t1 t2 cE
      obtain ⟨L, hL⟩ : ∃ L, L = (ss.take j).map (fun s => s.t - G s) := ⟨_, rfl⟩
      have hLl : L.length = j := by rw [hL, List.length_map, List.length_take, unhide HL]; omega
      rw [← hL] at HN HO
      have hbA := hbel.alloc hsz (.cells #[.slice sA sn sc, .int .i64 st] 25)
      have hOA : Hid (IOwn (wr.alloc (.cells #[.slice sA sn sc, .int .i64 st] 25)) w2.heap.size _ L) := hide ((unhide HO).alloc _)
      have bgX := (bg2.below hbel hgl).alloc (.cells #[.slice sA sn sc, .int .i64 st] 25)
      have bS := Blk.new wr 25 #[.slice sA sn sc, .int .i64 st]
      have g0 := bgX.cell 0; have g1 := bgX.cell 1; have g2 := bgX.cell 2; have g3 := bgX.cell 3
      simp at g0 g1 g2 g3
      have HLl := hide hLl
      have hgl2 : w.heap.size < wr.heap.size := by omega
      clear hx hok hL HO hLl hgs hm
      go_wp2_with fail
      refine (unhide cE _).mono ?_
      rintro e w4 ⟨rfl, hb4⟩
      have hsA : w2.heap.size ≤ (wr.alloc (.cells #[.slice sA sn sc, .int .i64 st] 25)).heap.size := by rw [World.size_alloc]; omega
      have hb4' := hbA.trans (hb4.mono hsA)
      have hown4 : w4.ownsRow w2.heap.size 3 1 _ L.length (L.map (Value.int .i64)) := own_over (unhide hOA) hb4
      rw [unhide HLl] at hown4
      have s1 : w4.cell? ⟨wr.heap.size, 1, none⟩ = some (.int .i64 st) := (hb4.cell (p := ⟨wr.heap.size, 1, none⟩) (by show wr.heap.size < _; rw [World.size_alloc]; omega)).trans (by simp)
      have hz4 : w2.heap.size ≤ w4.heap.size := hb4'.size
      clear hb4 hbA hOA bgX bS g0 g1 g2 g3 cE
      go_wp2_with (at_builtin; refine app_one elem_int (.tmp 45) (.tmp 50) [.int .i64 (st - gs)] rfl rfl rfl hown4 rfl rfl rfl (ints_oneCell .i64 [st - gs]) (by omega) hz4 ?_; intro v5 w5 hown5 hb5 _ _)
      have hown6 : IOwn w5 w2.heap.size v5 ((ss.take (j + 1)).map fun s => s.t - G s) := by
        rw [unhide HN]
        unfold IOwn
        rw [List.length_append, List.map_append, unhide HLl]
        exact hown5
      clear hown5 hown4 s1
      go_wp2_with fail
      go_roundw
      case rel => exact ⟨j + 1, by omega, by go_num, hide hown6, hb4'.trans hb5⟩
      case measure => simp [intOf] <;> omega
    · obtain rfl : j = k := by omega
      rw [List.take_of_length_le (by rw [unhide HL]; exact Nat.le_refl _)] at HO
      go_wp2_with fail
      go_ret2
      exact ⟨_, rfl, (unhide HO).low hB2.size, hBr⟩
end Go.Proofs.Ytdpijhnbhopnbaa
/- BoostFirst: the plain law and the walk. Conditions: samples that read as data. -/
namespace Go.Proofs.Ytdpijhnbhopnbaa
set_option linter.unusedVariables false
set_option linter.unusedSimpArgs false
open Go.RowKit

theorem boost0 {ss : List Sm} {n d : Nat} {part : Int} (hs : SRight ss n) : boostTrees ss n 0 d part = [[leafG ss]] := by
  have hv := leaf_v hs
  unfold boostTrees
  show [endT 1 (firstT ss)] = _
  unfold endT firstT
  simp only [List.map_cons, List.map_nil, reV]
  have e : capV ((leafG ss).v * ((1 : Nat) : Int)) = (leafG ss).v := by unfold capV; omega
  rw [e]
/-- a grove of one leaf -/
theorem leafGrove {g : Gv} {ss : List Sm} {n : Nat} (hs : SRight ss n) (h1 : g.f = n) (h2 : g.way = 2) (h3 : g.trees = [[leafG ss]]) (h4 : g.ws = [1]) : g.e = 0 ∧ ∀ s ∈ ss, gevalV g s.r = (leafG ss).v := by
  have hR := firstT_right hs
  have hE : g.e = 0 := by
    unfold Gv.e groveE
    rw [h1, h2, h3, h4]
    have h8 := hs.fe8
    rw [if_neg (by omega), if_neg (by omega), if_neg (by omega), if_neg (by omega), if_neg (by simp), if_neg (by simp), if_pos (by simp), if_pos (by decide)]
    have : treeE [leafG ss] n = 0 := treeE_right hR.1
    simp [treesE, this]
  refine ⟨hE, fun s hm => ?_⟩
  have hst := stand_samp hE h1 hs hm
  unfold gevalV
  rw [if_pos hst, h2, h4]
  have he : eachV g s.r = [(leafG ss).v] := by
    unfold eachV
    have : (g.ts.map fun t => valAt t.l (leafOf t.l s.r)) = g.trees.map fun t => valAt t (leafOf t s.r) := by unfold Gv.trees; rw [List.map_map]; rfl
    rw [this, h3]
    rfl
  rw [he]
  simp [togV, pSum, pAll]
theorem sum_rest {ss : List Sm} {v : Int} : sumL (ss.map fun s => s.t - v) = sumM ss - v * (ss.length : Int) := by
  induction ss with
  | nil => simp [sumM, sumL]
  | cons s r ih =>
    rw [List.map_cons, sumL_cons, ih]
    simp only [sumM, List.length_cons]
    rw [show ((r.length + 1 : Nat) : Int) = (r.length : Int) + 1 by omega, Int.mul_add]
    omega
theorem rest_sum {ss : List Sm} {n : Nat} (hs : SRight ss n) : 0 ≤ sumM ss - (leafG ss).v * (ss.length : Int) ∧ sumM ss - (leafG ss).v * (ss.length : Int) < (ss.length : Int) := by
  have hp := hs.pos
  have h0 : (0 : Int) < (ss.length : Int) := by omega
  have h1 := Int.mul_ediv_add_emod (sumM ss) (ss.length : Int)
  have h2 := Int.emod_nonneg (sumM ss) (show (ss.length : Int) ≠ 0 by omega)
  have h3 := Int.emod_lt_of_pos (sumM ss) h0
  have e : (leafG ss).v * (ss.length : Int) = (ss.length : Int) * (sumM ss / (ss.length : Int)) := by unfold leafG; rw [Int.mul_comm]
  rw [e]
  omega

set_option maxRecDepth 100000 in
set_option maxHeartbeats 4000000 in
theorem boostFirst_walk (A : Option Addr) (m c : Nat) (fe depth part : Int) (ss : List Sm) (w : World) (h : MReads w w.heap.size A m ss) (hm : m ≤ maxLen) :
    Calls Try.prog 5 #[.slice A m c, .int .i64 fe, .int .i64 depth, .int .i64 part] w fun e w' => e = .returned (.bool true) ∧ Below w.heap.size w w' := by
  have cF := hide (boost_any A m c fe 0 depth part ss w h hm)
  unfold BoostPost at cF
  have HL := hide h.len
  by_cases hE : boostE ss fe 0 depth part = 0
  case neg =>
    have hv := errV_1 hE
    have cC := hide (fun (W : World) (hB : Below w.heap.size w W) => gCheck_any A m c fe ss W ((h.below hB).more hB.size) hm)
    unfold MCheckPost at cC
    obtain ⟨k0, hk0⟩ : ∃ k0, k0 = (((sampC ss fe).1 : Nat) : Int) := ⟨_, rfl⟩
    rw [← hk0] at cC
    have hbad : sampE ss fe ≠ 0 ∨ depth < 1 ∨ 4 < depth ∨ part < 1 ∨ 100 < part := by
      unfold boostE at hE
      by_cases a1 : sampE ss fe = 0
      · rw [if_pos a1] at hE
        right
        exact Decidable.byContradiction fun hn => hE (by rw [if_neg (by omega)])
      · exact .inl a1
    have HBAD := hide hbad
    clear hE hk0 hbad
    go_enter Try.func5, Try.ntmps5
    go_wp2_with fail
    refine (unhide cF).mono ?_
    rintro e w1 ⟨g, rfl, hg, hb1, _, _⟩
    rw [hv]
    obtain ⟨f, way, Aw, nw, cw, ws, At, nt, ct, gts⟩ := g
    simp only [Gv.val]
    have hbA := hb1.alloc hb1.size (.cells #[.int .i64 f, .int .i64 way, .slice Aw nw cw, .slice At nt ct] 46)
    clear cF hv hg
    go_wp2_with fail
    refine (unhide cC _ hbA).mono ?_
    rintro e w2 ⟨rfl, hb2⟩
    have hB2 := hbA.trans (hb2.mono hbA.size)
    clear hb1 hbA hb2 cC
    by_cases a1 : sampE ss fe = 0
    · rw [a1, errV_0 rfl]
      have hb' : depth < 1 ∨ 4 < depth ∨ part < 1 ∨ 100 < part := by
        rcases unhide HBAD with h1 | h1
        · exact absurd a1 h1
        · exact h1
      have HB := hide hb'
      clear a1 hb'
      by_cases h3 : depth < 1
      · have d3 : decide (depth < 1) = true := decide_eq_true h3
        clear h3
        go_wp2_with fail
        go_ret
        exact ⟨rfl, hB2⟩
      have d3 : decide (depth < 1) = false := decide_eq_false h3
      by_cases h4 : 4 < depth
      · have d4 : decide (4 < depth) = true := decide_eq_true h4
        clear h3 h4
        go_wp2_with fail
        go_ret
        exact ⟨rfl, hB2⟩
      have d4 : decide (4 < depth) = false := decide_eq_false h4
      by_cases h5 : part < 1
      · have d5 : decide (part < 1) = true := decide_eq_true h5
        clear h3 h4 h5
        go_wp2_with fail
        go_ret
        exact ⟨rfl, hB2⟩
      have d5 : decide (part < 1) = false := decide_eq_false h5
      have d6 : decide (100 < part) = true := decide_eq_true (by have := unhide HB; omega)
      clear h3 h4 h5
      go_wp2_with fail
      go_ret
      exact ⟨rfl, hB2⟩
    · rw [errV_1 a1]
      clear a1
      go_wp2_with fail
      go_ret
      exact ⟨rfl, hB2⟩
  obtain ⟨a0, _, _, a3, a4, a5, a6⟩ := boostE_0 hE
  obtain ⟨n, hn, hs⟩ := samp_right a0
  subst hn
  have hm60 : m ≤ 60 := by have := hs.most; have := unhide HL; omega
  have hv := errV_0 hE
  have HSR := hide hs
  have HE := hide hE
  go_enter Try.func5, Try.ntmps5
  go_wp2_with fail
  refine (unhide cF).mono ?_
  rintro e w1 ⟨g, rfl, hg, hb1, hok, _⟩
  rw [hv]
  obtain ⟨q1, q2, q3, q4⟩ := hok hE
  rw [Int.toNat_natCast, show (0 : Int).toNat = 0 from rfl, boost0 hs] at q3
  rw [q3] at q4
  have hgl := leafGrove hs q1 q2 q3 q4
  have cR := hide (fun (W : World) (hB : Below w1.heap.size w1 W) => rest_any g A m c ss W ((hg.below hB).more hB.size) ((h.below (hb1.trans (hB.mono hb1.size))).more (Nat.le_trans hb1.size hB.size)) hm (fun s hm' _ => by
    rw [hgl.2 s hm']
    have := leaf_v hs
    omega))
  unfold RestPost at cR
  have hRE : restE g ss = 0 := by unfold restE; rw [if_pos hgl.1, q1, a0]
  have hRV : restV g ss = ss.map fun s => s.t - (leafG ss).v := by
    unfold restV
    rw [if_pos hRE]
    exact List.map_congr_left fun s hm' => by rw [hgl.2 s hm']
  rw [hRE, hRV, errV_0 rfl] at cR
  have hgt : g.nt = 1 := by
    have h1 := hg.ts.len
    have h2 := congrArg List.length q3
    rw [Gv.trees_len] at h2
    simp at h2
    omega
  have htr := hg.ts
  obtain ⟨f, way, Aw, nw, cw, ws, At, nt, ct, gts⟩ := g
  dsimp only at hgt htr
  subst hgt
  obtain ⟨tb, to_, r, hAt, htb, hr0, ctr, hrok⟩ := htr.get (k := 0) (by omega)
  subst hAt
  have hrl : r.l = [leafG ss] := by
    have : (gts.map Tr.l)[0]? = some r.l := by rw [List.getElem?_map, hr0]; rfl
    rw [show gts.map Tr.l = [[leafG ss]] from q3] at this
    injection this with this
    exact this.symm
  have hrn : r.n = 1 := by have := hrok.reads.len; rw [hrl] at this; simpa using this.symm
  obtain ⟨rA, rn, rc, rl⟩ := r
  dsimp only at ctr hrn
  subst hrn
  have ctr' : w1.cell? ⟨tb, to_, none⟩ = some (.slice rA 1 rc) := by simpa using ctr
  simp only [Gv.val] at cR ⊢
  have hbA := (Below.refl w1.heap.size w1).alloc (Nat.le_refl _) (.cells #[.int .i64 f, .int .i64 way, .slice Aw nw cw, .slice (some ⟨tb, to_, none⟩) 1 ct] 46)
  have hSum : Hid (∀ j, j ≤ m → -1000000 ≤ sumL ((ss.map fun s => s.t - (leafG ss).v).take j) ∧ sumL ((ss.map fun s => s.t - (leafG ss).v).take j) ≤ 1000000) := hide (fun j hj => by
    rw [← List.map_take, sum_rest]
    have h1 := sum_60 (ss := ss.take j) (by rw [List.length_take]; have := unhide HL; omega) (fun s hm' => hs.tlo s (List.mem_of_mem_take hm')) (fun s hm' => hs.thi s (List.mem_of_mem_take hm'))
    have h2 := leaf_v hs
    have h3 : ((ss.take j).length : Int) ≤ 60 := by rw [List.length_take]; omega
    have h4 : -60000 ≤ (leafG ss).v * ((ss.take j).length : Int) ∧ (leafG ss).v * ((ss.take j).length : Int) ≤ 60000 := by
      have hk : (0 : Int) ≤ ((ss.take j).length : Int) := by omega
      generalize ((ss.take j).length : Int) = k at h3 hk ⊢
      constructor
      · have := Int.mul_le_mul_of_nonneg_right h2.1 hk; omega
      · have := Int.mul_le_mul_of_nonneg_right h2.2 hk; omega
    omega)
  have HFin : Hid (0 ≤ sumL (ss.map fun s => s.t - (leafG ss).v) ∧ sumL (ss.map fun s => s.t - (leafG ss).v) < (m : Int)) := hide (by rw [sum_rest, ← unhide HL]; exact rest_sum hs)
  have hll : (ss.map fun s => s.t - (leafG ss).v).length = m := by rw [List.length_map, unhide HL]
  obtain ⟨RL, hRL⟩ : ∃ R, R = ss.map fun s => s.t - (leafG ss).v := ⟨_, rfl⟩
  rw [← hRL] at cR hSum HFin hll
  have HLL := hide hll
  clear hRL hll cF hv q1 q2 q3 q4 hgl hRE hRV hr0 hrok hrl ctr htr hg hok a0 a3 a4 a5 a6 hE hs
  have HRB : Hid (∀ x ∈ RL, -100000000 ≤ x ∧ x ≤ 100000000) := hide (fun x hx => by
    obtain ⟨j, hj⟩ := List.mem_iff_getElem?.1 hx
    have h1 := sumL_take hj
    have hjl := (List.getElem?_eq_some_iff.1 hj).1
    have h2 := unhide hSum j (by have := unhide HLL; omega)
    have h3 := unhide hSum (j + 1) (by have := unhide HLL; omega)
    omega)
  go_wp2_with fail
  refine (unhide cR _ hbA).mono ?_
  rintro e w2 ⟨v2, rfl, ho2, hb2⟩
  obtain ⟨A13, c13, rfl, hr13, _, _, _⟩ := ho2.slice_
  rw [unhide HLL] at hr13 ⊢
  have hB2 := hbA.trans (hb2.mono hbA.size)
  have hBw := hb1.trans (hB2.mono hb1.size)
  have bX := (Blk.new w1 46 #[.int .i64 f, .int .i64 way, .slice Aw nw cw, .slice (some ⟨tb, to_, none⟩) 1 ct]).below hb2 (by rw [World.size_alloc]; omega)
  have x3 := bX.cell 3
  simp at x3
  have t0 : w2.cell? ⟨tb, to_, none⟩ = some (.slice rA 1 rc) := (hB2.cell (p := ⟨tb, to_, none⟩) htb).trans ctr'
  have dm : ((m : Int) != (m : Int)) = false := by simp
  clear cR ho2 hb2 hB2 hbA bX ctr' hb1
  go_wp2_with fail
  clear x3 t0 dm
  go_loopw [15, 16] (fun s i wr => ∃ j q : Nat, j ≤ m ∧ s = .int .i64 (sumL (RL.take j)) ∧ i = .int .i64 j ∧ wr = w2.drewN q) (fun _ i _ => m - (intOf i).toNat)
  case atStart => exact ⟨0, 0, Nat.zero_le _, rfl, rfl, rfl⟩
  case round =>
    obtain ⟨j, q, hj, rfl, rfl, rfl⟩ := hrel
    by_cases hlt : j < m
    · obtain ⟨b, o, x, rfl, _, hx, cx⟩ := hr13.get hlt
      have HN := hide (sumL_take hx)
      obtain ⟨s1, s2⟩ := unhide hSum j hj
      obtain ⟨x1, x2⟩ := unhide HRB x (List.mem_of_getElem? hx)
      obtain ⟨S, hS⟩ : ∃ S, S = sumL (RL.take j) := ⟨_, rfl⟩
      rw [← hS] at s1 s2 HN ⊢
      clear hx hS
      go_wp2_with fail
      go_roundw
      case rel => exact ⟨j + 1, q, by omega, by rw [unhide HN], by go_num, rfl⟩
      case measure => simp [intOf]; omega
    · obtain rfl : j = m := by omega
      rw [List.take_of_length_le (by rw [unhide HLL]; exact Nat.le_refl _)]
      obtain ⟨h1, h2⟩ := unhide HFin
      obtain ⟨S, hS⟩ : ∃ S, S = sumL RL := ⟨_, rfl⟩
      rw [← hS] at h1 h2 ⊢
      have d1 : decide (0 ≤ S) = true := decide_eq_true h1
      have d2 : decide (S < (j : Int)) = true := decide_eq_true h2
      clear hS
      go_wp2_with fail
      go_ret
      exact ⟨rfl, below_drewN hBw q⟩
end Go.Proofs.Ytdpijhnbhopnbaa
/- From an argument's reading to the words of the walks: a slice of nodes. Conditions: none. -/
namespace Go.Proofs.Ytdpijhnbhopnbaa
set_option linter.unusedVariables false
set_option linter.unusedSimpArgs false
open Go.RowKit Go.ChangeShapes Go.WideShapes Go.Deep

theorem reads_flat {α : Type} {w : World} {size n : Nat} {a : Addr} (f : α → List Value) (hf : ∀ x, (f x).length = size) (hs : 0 < size) (l : List α) (hl : l.length = n) (hb : 0 < n → a.block < w.heap.size)
    (h : ∀ (i : Nat) x, l[i]? = some x → ∀ (r : Nat) u, r < size → (f x)[r]? = some u → w.cell? (a.add (i * size + r)) = some u) : Reads w w.heap.size size (some a) n (l.flatMap f) := by
  refine ⟨by rw [flatMap_len f size hf, hl], fun hn => ⟨a, rfl, hb hn, fun j u hu => ?_⟩⟩
  have hj : j < n * size := by
    have := (List.getElem?_eq_some_iff.1 hu).1
    rwa [flatMap_len f size hf, hl] at this
  have hi : j / size < n := Nat.div_lt_of_lt_mul (by rwa [Nat.mul_comm])
  have hx : l[j / size]? = some l[j / size] := List.getElem?_eq_getElem (by omega)
  have hr : j % size < size := Nat.mod_lt _ hs
  have e : j / size * size + j % size = j := by rw [Nat.mul_comm]; exact Nat.div_add_mod j size
  have := flatMap_at f size hf l (j / size) (j % size) _ hx hr
  rw [e, hu] at this
  have := h _ _ hx _ u hr this.symm
  rwa [e] at this

theorem arg_nodes {H : Type} {enc : TypeId × Value → H} {w : World} {sp : Nat → Bool} {A : Option Addr} {n c : Nat} {d : DataW H} {p : List MemPlace}
    (h : DataW.Trod enc Try.prog w 0 sp true 26 (.slice A n c) d p) : ∃ t : List Nd, NReads w w.heap.size A n t ∧ n ≤ maxLen ∧ n ≤ c := by
  obtain ⟨fuel, hf⟩ := h
  rcases open_slice_fields Try.underlying26 Try.underlying32 (by kernel_rfl) (by kernel_rfl) hf with ⟨hcs, _⟩ | ⟨a, len, cap, m, D, Pl, hcs, _, hl, hm, hmm, _, hi⟩
  · simp [Value.cells] at hcs
    obtain ⟨rfl, rfl, rfl⟩ := hcs
    exact ⟨[], ⟨by simp, fun h0 => absurd h0 (by omega)⟩, Nat.zero_le _, Nat.le_refl _⟩
  · simp [Value.cells] at hcs
    obtain ⟨rfl, rfl, rfl⟩ := hcs
    have hmn : n ≤ m := by rw [hmm]; split <;> omega
    have key : ∀ i, i < n → ∃ x : Nd, ∀ (r : Nat) u, r < 6 → (Nd.cells x)[r]? = some u → w.cell? (a.add (i * 6 + r)) = some u := by
      intro i hin
      obtain ⟨ys, q, _, _, _, hfl⟩ := hi i (by omega)
      obtain ⟨v0, y0, c0, _, t0⟩ := hfl 0 _ rfl
      obtain ⟨v1, y1, c1, _, t1⟩ := hfl 1 _ rfl
      obtain ⟨v2, y2, c2, _, t2⟩ := hfl 2 _ rfl
      obtain ⟨v3, y3, c3, _, t3⟩ := hfl 3 _ rfl
      obtain ⟨v4, y4, c4, _, t4⟩ := hfl 4 _ rfl
      obtain ⟨v5, y5, c5, _, t5⟩ := hfl 5 _ rfl
      obtain ⟨x0, e0, _⟩ := DataW.trod_int Try.underlying3 t0
      obtain ⟨x1, e1, _⟩ := DataW.trod_int Try.underlying3 t1
      obtain ⟨x2, e2, _⟩ := DataW.trod_int Try.underlying3 t2
      obtain ⟨x3, e3, _⟩ := DataW.trod_int Try.underlying3 t3
      obtain ⟨x4, e4, _⟩ := DataW.trod_bool Try.underlying4 t4
      obtain ⟨x5, e5, _⟩ := DataW.trod_int Try.underlying3 t5
      simp at e0 e1 e2 e3 e4 e5
      subst e0 e1 e2 e3 e4 e5
      refine ⟨⟨x0, x1, x2, x3, x4, x5⟩, fun r u hr hu => ?_⟩
      match r, hr with
      | 0, _ => simp [Nd.cells] at hu; subst hu; exact c0
      | 1, _ => simp [Nd.cells] at hu; subst hu; exact c1
      | 2, _ => simp [Nd.cells] at hu; subst hu; exact c2
      | 3, _ => simp [Nd.cells] at hu; subst hu; exact c3
      | 4, _ => simp [Nd.cells] at hu; subst hu; exact c4
      | 5, _ => simp [Nd.cells] at hu; subst hu; exact c5
    have key2 : ∀ i, ∃ x : Nd, i < n → ∀ (r : Nat) u, r < 6 → (Nd.cells x)[r]? = some u → w.cell? (a.add (i * 6 + r)) = some u := by
      intro i
      by_cases hin : i < n
      · obtain ⟨x, hx⟩ := key i hin
        exact ⟨x, fun _ => hx⟩
      · exact ⟨⟨0, 0, 0, 0, false, 0⟩, fun h => absurd h hin⟩
    refine ⟨(List.range n).map (fun i => Classical.choose (key2 i)), reads_flat Nd.cells (fun _ => rfl) (by omega) _ (by simp) ?_ ?_, by omega, hl⟩
    · intro hn
      obtain ⟨x, hx⟩ := key 0 hn
      have := cell_lt (hx 0 _ (by omega) rfl)
      rwa [block_of_add] at this
    · intro i x hx r u hr hu
      simp only [List.getElem?_map, Option.map_eq_some_iff] at hx
      obtain ⟨j, hj, rfl⟩ := hx
      obtain ⟨hjl, rfl⟩ := List.getElem?_eq_some_iff.1 hj
      simp only [List.getElem_range] at hu
      exact Classical.choose_spec (key2 i) (by simpa using hjl) r u hr hu
end Go.Proofs.Ytdpijhnbhopnbaa
