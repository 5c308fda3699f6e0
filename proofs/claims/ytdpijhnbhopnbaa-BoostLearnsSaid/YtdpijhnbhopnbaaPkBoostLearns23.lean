/- Part 23 of what LawBoostLearns needs: BoostLearns, Args2, ArgsG, ArgsM. Conditions: as each lemma names. -/
import Derived.Test.YtdpijhnbhopnbaaPkBoostLearns22
import Derived.Test.YtdpijhnbhopnbaaPkBoostLearns05
import Derived.Test.YtdpijhnbhopnbaaPkBoostLearns02
import Derived.Deep.Slices
import Derived.Test.YtdpijhnbhopnbaaPkBoostLearns18
import Derived.Test.YtdpijhnbhopnbaaPkBoostLearns11
/- BoostLearns: the walk. Conditions: samples that read as data. -/
namespace Go.Proofs.Ytdpijhnbhopnbaa
set_option linter.unusedVariables false
set_option linter.unusedSimpArgs false
open Go.RowKit

/-- what is known of a grove that was boosted -/
structure BG (g : Gv) (ss : List Sm) (n R d : Nat) (part : Int) : Prop where
  e : g.e = 0
  restE : restE g ss = 0
  wrong : bwrongV g ss = squaresV (roundsB ss n d part R (startBS ss)).rest
  val : ∀ s ∈ ss, standE g s.r = 0 → -1000000000000000 ≤ gevalV g s.r ∧ gevalV g s.r ≤ 1000000000000000
  trees : g.trees = boostTrees ss n R d part
  len : g.trees.length = (roundsB ss n d part R (startBS ss)).trees.length
  cnt : g.trees.length ≤ R + 1
theorem bg_of {g : Gv} {ss : List Sm} {n R d : Nat} {part : Int} (hs : SRight ss n) (hS : sampE ss n = 0) (hd : d ≤ 4) (h1 : 1 ≤ part) (h2 : part ≤ 100) (hR : R ≤ 8) (e1 : g.f = n) (e2 : g.way = 2) (e3 : g.trees = boostTrees ss n R d part) (e4 : g.ws = List.replicate g.trees.length 1) : BG g ss n R d part := by
  obtain ⟨a, b, c, _, _⟩ := boosted hs hd h1 h2 hR e1 e2 e3 e4
  obtain ⟨x, y⟩ := boosted_rest hs hS hd h1 h2 hR e1 e2 e3 e4
  refine ⟨a, x, by unfold bwrongV; rw [if_pos x, y], fun s hm _ => ?_, e3, c, by rw [c]; exact (BInv.rounds hs hd h1 h2 R).cnt⟩
  have := boosted_val hs hd h1 h2 hR e1 e2 e3 e4 s hm
  omega
theorem endT_len (m : Nat) (t : List Nd) : (endT m t).length = t.length := by unfold endT; rw [List.length_map]
/-- what the law asks of two groves, one round apart -/
theorem learns_law {a b : Gv} {ss : List Sm} {n R d : Nat} {part : Int} (hR : 1 ≤ R) (ha : BG a ss n R d part) (hb : BG b ss n (R - 1) d part) :
    b.trees.length ≤ a.trees.length ∧ (∀ (i : Nat) x y, a.trees[i]? = some x → b.trees[i]? = some y → x.length = y.length) ∧
    (a.trees.length = b.trees.length → bwrongV a ss = bwrongV b ss) ∧ (a.trees.length ≠ b.trees.length → bwrongV a ss < bwrongV b ss) := by
  rw [ha.wrong, hb.wrong, ha.len, hb.len, ha.trees, hb.trees]
  unfold boostTrees
  rcases learns (ss := ss) (n := n) (d := d) (part := part) hR with e | ⟨t, e1, e2⟩
  · rw [e]
    refine ⟨Nat.le_refl _, fun i x y hx hy => ?_, fun _ => rfl, fun h => absurd rfl h⟩
    rw [hx] at hy
    injection hy with hy
    rw [hy]
  · refine ⟨by rw [e1, List.length_append]; omega, fun i x y hx hy => ?_, fun h => ?_, fun _ => e2⟩
    · rw [List.getElem?_map] at hx hy
      obtain ⟨p, hp, rfl⟩ := Option.map_eq_some_iff.1 hx
      obtain ⟨q, hq, rfl⟩ := Option.map_eq_some_iff.1 hy
      rw [endT_len, endT_len]
      have hlt := (List.getElem?_eq_some_iff.1 hq).1
      rw [e1, List.getElem?_append_left hlt, hq] at hp
      injection hp with hp
      rw [hp]
    · rw [e1, List.length_append] at h
      simp at h

set_option maxRecDepth 100000 in
set_option maxHeartbeats 8000000 in
theorem boostLearns_walk (A : Option Addr) (m c : Nat) (fe rounds depth part : Int) (ss : List Sm) (w : World) (h : MReads w w.heap.size A m ss) (hm : m ≤ maxLen) :
    Calls Try.prog 4 #[.slice A m c, .int .i64 fe, .int .i64 rounds, .int .i64 depth, .int .i64 part] w fun e w' => e = .returned (.bool true) ∧ Below w.heap.size w w' := by
  obtain ⟨W0, hW0, hr0, hB0⟩ := four_reads w
  have cF := hide (boost_any _ 4 4 1 1 1 100 _ W0 hr0 (by decide))
  unfold BoostPost at cF
  rw [four_E, errV_0 rfl] at cF
  have hS4 := four_S (some ⟨w.heap.size, 0, none⟩) (some ⟨w.heap.size + 1, 0, none⟩) (some ⟨w.heap.size + 2, 0, none⟩) (some ⟨w.heap.size + 3, 0, none⟩)
  have hR4 := four_rounds (some ⟨w.heap.size, 0, none⟩) (some ⟨w.heap.size + 1, 0, none⟩) (some ⟨w.heap.size + 2, 0, none⟩) (some ⟨w.heap.size + 3, 0, none⟩)
  obtain ⟨S4, hS4e⟩ : ∃ S, S = fourS (some ⟨w.heap.size, 0, none⟩) (some ⟨w.heap.size + 1, 0, none⟩) (some ⟨w.heap.size + 2, 0, none⟩) (some ⟨w.heap.size + 3, 0, none⟩) := ⟨_, rfl⟩
  rw [← hS4e] at cF hS4 hR4 hr0
  clear hS4e
  have HW0 := hide hW0
  clear hW0
  have HL := hide h.len
  have HS4 := hide hS4
  have HR4 := hide hR4
  clear hS4 hR4
  go_enter Try.func4, Try.ntmps4
  go_wp2_with fail
  rw [← unhide HW0]
  refine (unhide cF).mono ?_
  rintro e w1 ⟨g, rfl, hg, hb1, hok, hno⟩
  clear hno
  obtain ⟨n4, hn4, hs4⟩ := samp_right (unhide HS4)
  obtain rfl : n4 = 1 := by omega
  clear hn4
  have hbg : BG g S4 1 1 1 100 := by
    obtain ⟨q1, q2, q3, q4⟩ := hok trivial
    exact bg_of hs4 (unhide HS4) (by omega) (by omega) (by omega) (by omega) q1 q2 q3 q4
  have hgt : g.nt = 2 := by
    have h1 := hg.ts.len
    have h2 := hbg.len
    rw [(unhide HR4).2, Gv.trees_len] at h2
    omega
  have cW := hide (fun (W : World) (hB : Below w1.heap.size w1 W) => bwrong_any g _ 4 4 S4 W ((hg.below hB).more hB.size) ((hr0.below (hb1.trans (hB.mono hb1.size))).more (Nat.le_trans hb1.size hB.size)) (by decide) hbg.val)
  rw [hbg.restE, hbg.wrong, (unhide HR4).1, errV_0 rfl, show squaresV [0, 0, 0, 0] = 0 by decide] at cW
  have hBw := hB0.trans (hb1.mono hB0.size)
  obtain ⟨f, way, Aw, nw, cw, ws, At, nt, ct, gts⟩ := g
  dsimp only at hgt
  subst hgt
  simp only [Gv.val] at cW ⊢
  clear hg hok hbg cF hr0 hB0 hb1 hs4 HS4 HR4
  have hbA := (Below.refl w1.heap.size w1).alloc (Nat.le_refl _) (.cells #[.int .i64 f, .int .i64 way, .slice Aw nw cw, .slice At 2 ct] 46)
  go_wp2_with fail
  refine (unhide cW _ hbA).mono ?_
  rintro e w2 ⟨rfl, hb2⟩
  have hB2 := hBw.trans ((hbA.trans (hb2.mono hbA.size)).mono hBw.size)
  clear cW hbA hb2 hBw HW0
  have cF := hide (boost_any A m c fe rounds depth part ss w2 ((h.below hB2).more hB2.size) hm)
  unfold BoostPost at cF
  go_wp2_with fail
  by_cases hE : boostE ss fe rounds depth part = 0
  case neg =>
    have hv := errV_1 hE
    clear hE
    refine (unhide cF).mono ?_
    rintro e w3 ⟨g, rfl, hg, hb3, hno1, hno2⟩
    clear hno1 hno2
    rw [hv]
    obtain ⟨f, way, Aw, nw, cw, ws, At, nt, ct, gts⟩ := g
    simp only [Gv.val]
    have hbA := hb3.alloc hb3.size (.cells #[.int .i64 f, .int .i64 way, .slice Aw nw cw, .slice At nt ct] 46)
    clear hg hv cF
    go_wp2_with fail
    go_ret
    exact ⟨rfl, hB2.trans (hbA.mono hB2.size)⟩
  obtain ⟨a0, a1, a2, a3, a4, a5, a6⟩ := boostE_0 hE
  obtain ⟨n, hn, hs⟩ := samp_right a0
  subst hn
  have hv := errV_0 hE
  obtain ⟨R, hR⟩ : ∃ R : Nat, rounds = R := ⟨rounds.toNat, by omega⟩
  obtain ⟨d, hd⟩ : ∃ d : Nat, depth = d := ⟨depth.toNat, by omega⟩
  subst hR hd
  refine (unhide cF).mono ?_
  rintro e w3 ⟨g, rfl, hg, hb3, hok, hno⟩
  clear hno
  rw [hv]
  have hbg : BG g ss n R d part := by
    obtain ⟨q1, q2, q3, q4⟩ := hok hE
    exact bg_of hs a0 (by omega) a5 a6 (by omega) q1 q2 q3 q4
  have hB3 := hB2.trans (hb3.mono hB2.size)
  have HBG := hide hbg
  clear cF hok hbg hv
  obtain ⟨G, hG⟩ : ∃ G, G = g := ⟨_, rfl⟩
  rw [← hG] at HBG
  have HGe : Hid (G = g) := hide hG
  clear hG
  have hgR := hg
  obtain ⟨f, way, Aw, nw, cw, ws, At, nt, ct, gts⟩ := g
  have HGR := hide hgR
  simp only [Gv.val]
  have hbA := hb3.alloc hb3.size (.cells #[.int .i64 f, .int .i64 way, .slice Aw nw cw, .slice At nt ct] 46)
  have hR8 : R ≤ 8 := by omega
  have hd4 : d ≤ 4 := by omega
  have hn8 : n ≤ 8 := hs.fe8
  by_cases hR1 : (R : Int) < 1
  · have d1 : decide ((R : Int) < 1) = true := decide_eq_true hR1
    have d1' : decide (R < 1) = true := decide_eq_true (by omega)
    clear hR1 hg hgR hE a0 a1 a2 a3 a4 a5 a6 hs HGe HBG HGR
    obtain ⟨z, hz⟩ : ∃ z, z = (R : Int) := ⟨_, rfl⟩
    rw [← hz] at d1 ⊢
    clear hz d1'
    go_wp2_with fail
    go_ret
    exact ⟨rfl, hB2.trans (hbA.mono hB2.size)⟩
  have d1 : decide ((R : Int) < 1) = false := decide_eq_false hR1
  have d1' : decide (R < 1) = false := decide_eq_false (by omega)
  have hRp : 1 ≤ R := by omega
  have hE2 : boostE ss n ((R : Int) - 1) d part = 0 := by
    unfold boostE
    rw [if_pos a0, if_neg (by omega)]
  have HR1e : Hid (((R : Int) - 1) = ((R - 1 : Nat) : Int)) := hide (by omega)
  have hwA := hbA.size
  have cF2 := hide (fun (W : World) (hB : Below w2.heap.size w2 W) => boost_any A m c n ((R : Int) - 1) d part ss W ((h.below (hB2.trans (hB.mono hB2.size))).more (Nat.le_trans hB2.size hB.size)) hm)
  unfold BoostPost at cF2
  rw [hE2, errV_0 rfl] at cF2
  have HS := hide hs
  have HA0 := hide a0
  have hsub : IntKind.i64.wrap ((R : Int) - 1) = (R : Int) - 1 := IntWalk.i64_in _ (by omega)
  have bA := Blk.new w3 46 #[.int .i64 f, .int .i64 way, .slice Aw nw cw, .slice At nt ct]
  clear hE a0 a3 a4 hs hg hgR hR1 hE2
  go_wp2_with fail
  refine (unhide cF2 _ hbA).mono ?_
  rintro e w4 ⟨g2, rfl, hg2, hb4, hok, hno⟩
  clear hno
  have hbg2 : BG g2 ss n (R - 1) d part := by
    obtain ⟨q1, q2, q3, q4⟩ := hok trivial
    rw [unhide HR1e] at q3
    rw [Int.toNat_natCast, Int.toNat_natCast, Int.toNat_natCast] at q3
    exact bg_of (unhide HS) (unhide HA0) (by omega) a5 a6 (by omega) q1 q2 q3 q4
  have HBG2 := hide hbg2
  have hbA4 := hbA.trans (hb4.mono hwA)
  have b1 := bA.below hb4 (by rw [World.size_alloc]; omega)
  have hb34 : Below w3.heap.size w3 w4 := ((Below.refl _ _).alloc (Nat.le_refl _) _).trans (hb4.mono (by rw [World.size_alloc]; omega))
  have hG4 := ((unhide HGR).below hb34).more hb34.size
  have HBG1 := hide (show BG _ ss n R d part from unhide HGe ▸ unhide HBG)
  have hLaw := learns_law hRp (unhide HBG1) hbg2
  have hcnt := (unhide HBG1).cnt
  have hMW := hide (fun (W : World) (hB : Below w4.heap.size w4 W) => (h.below (hB2.trans ((hbA4.trans (hB.mono hbA4.size)).mono hB2.size))).more (Nat.le_trans hB2.size (Nat.le_trans hbA4.size hB.size)))
  have cW1 := hide (fun (W : World) (hB : Below w4.heap.size w4 W) => bwrong_any _ A m c ss W ((hG4.below hB).more hB.size) (unhide hMW W hB) hm (unhide HBG1).val)
  have cW2 := hide (fun (W : World) (hB : Below w4.heap.size w4 W) => bwrong_any g2 A m c ss W ((hg2.below hB).more hB.size) (unhide hMW W hB) hm hbg2.val)
  have cCk := hide (fun (W : World) (hB : Below w4.heap.size w4 W) => gcheck_any _ W ((hG4.below hB).more hB.size))
  rw [(unhide HBG1).restE, errV_0 rfl] at cW1
  rw [hbg2.restE, errV_0 rfl] at cW2
  rw [(unhide HBG1).e, errV_0 rfl] at cCk
  have ht1 := hG4.ts
  have ht2 := hg2.ts
  have hnt1 : nt ≤ maxLen := hG4.nt
  have hnt2 : g2.nt ≤ maxLen := hg2.nt
  obtain ⟨f2, way2, Aw2, nw2, cw2, ws2, At2, nt2, ct2, gts2⟩ := g2
  dsimp only at ht1 ht2 hnt2
  have hl1 := ht1.len
  have hl2 := ht2.len
  rw [Gv.trees_len] at hcnt
  rw [Gv.trees_len, Gv.trees_len] at hLaw
  dsimp only at hcnt hLaw
  rw [hl1] at hcnt
  rw [hl1, hl2] at hLaw
  obtain ⟨L1, L2, L3, L4⟩ := hLaw
  obtain ⟨va, hva⟩ : ∃ v, v = bwrongV (⟨f, way, Aw, nw, cw, ws, At, nt, ct, gts⟩ : Gv) ss := ⟨_, rfl⟩
  obtain ⟨vb, hvb⟩ : ∃ v, v = bwrongV (⟨f2, way2, Aw2, nw2, cw2, ws2, At2, nt2, ct2, gts2⟩ : Gv) ss := ⟨_, rfl⟩
  rw [← hva] at cW1 L3 L4
  rw [← hvb] at cW2 L3 L4
  have HL2 : Hid (∀ (i : Nat) x y, gts[i]? = some x → gts2[i]? = some y → x.l.length = y.l.length) := hide (fun i x y hx hy => L2 i x.l y.l (Gv.trees_at hx) (Gv.trees_at hy))
  have HL3 := hide L3
  have HL4 := hide L4
  simp only [Gv.val] at cW1 cW2 cCk ⊢
  have hbX := (Below.refl w4.heap.size w4).alloc (Nat.le_refl _) (.cells #[.int .i64 f2, .int .i64 way2, .slice Aw2 nw2 cw2, .slice At2 nt2 ct2] 46)
  have b1X := b1.alloc (.cells #[.int .i64 f2, .int .i64 way2, .slice Aw2 nw2 cw2, .slice At2 nt2 ct2] 46)
  have b2X := Blk.new w4 46 #[.int .i64 f2, .int .i64 way2, .slice Aw2 nw2 cw2, .slice At2 nt2 ct2]
  have hBw := hB2.trans (hbA4.mono hB2.size)
  clear cF2 hok hbg2 bA hsub hbA hb4 b1 hb34 hG4 hg2 hMW hva hvb hl1 hl2 L2 L3 L4 hbA4 HGe HBG HBG1 HBG2 HGR HA0 HS hwA HR1e a1 a2 a5 a6
  have x0 := b1X.cell 0; have x1 := b1X.cell 1; have x2 := b1X.cell 2; have x3 := b1X.cell 3
  simp at x0 x1 x2 x3
  go_wp2_with fail
  refine (unhide cW1 _ hbX).mono ?_
  rintro e w5 ⟨rfl, hb5⟩
  have hX5 := hbX.trans (hb5.mono hbX.size)
  have b15 := b1X.below hb5 b1X.lt
  have b25 := b2X.below hb5 b2X.lt
  clear cW1 x0 x1 x2 x3 b1X b2X hb5 hbX
  have x0 := b25.cell 0; have x1 := b25.cell 1; have x2 := b25.cell 2; have x3 := b25.cell 3
  simp at x0 x1 x2 x3
  go_wp2_with fail
  refine (unhide cW2 _ hX5).mono ?_
  rintro e w6 ⟨rfl, hb6⟩
  have hX6 := hX5.trans (hb6.mono hX5.size)
  have b16 := b15.below hb6 b15.lt
  have b26 := b25.below hb6 b25.lt
  clear cW2 x0 x1 x2 x3 b15 b25 hb6 hX5
  have x0 := b16.cell 0; have x1 := b16.cell 1; have x2 := b16.cell 2; have x3 := b16.cell 3
  have y3 := b26.cell 3
  simp at x0 x1 x2 x3 y3
  have hn1 : decide (R + 1 < nt) = false := decide_eq_false (by omega)
  have hn1' : decide ((R : Int) + 1 < (nt : Int)) = false := decide_eq_false (by omega)
  have hn2 : decide (nt < nt2) = false := decide_eq_false (by omega)
  have hn2' : decide ((nt : Int) < (nt2 : Int)) = false := decide_eq_false (by omega)
  have hnt9 : nt ≤ 9 := by omega
  have hnt29 : nt2 ≤ 9 := by omega
  clear hcnt hnt1 hnt2
  go_wp2_with fail
  refine (unhide cCk _ hX6).mono ?_
  rintro e w7 ⟨rfl, hb7⟩
  have hX7 := hX6.trans (hb7.mono hX6.size)
  have b17 := b16.below hb7 b16.lt
  have b27 := b26.below hb7 b26.lt
  clear cCk x0 x1 x2 x3 y3 b16 b26 hb7 hX6
  have x3 := b17.cell 3
  have y3 := b27.cell 3
  simp at x3 y3
  go_wp2_with fail
  have T1 := ht1.below hX7
  have T2 := ht2.below hX7
  have hBE := hBw.trans (hX7.mono hBw.size)
  clear ht1 ht2 hX7 hBw b17 b27 hn1 hn1' hn2 hn2'
  go_loopw [24] (fun i wr => ∃ j q : Nat, j ≤ nt2 ∧ i = .int .i64 j ∧ wr = w7.drewN q) (fun i _ => nt2 - (intOf i).toNat)
  case atStart => exact ⟨0, 0, Nat.zero_le _, rfl, rfl⟩
  case round =>
    obtain ⟨j, q, hj, rfl, rfl⟩ := hrel
    by_cases hlj : j < nt2
    · obtain ⟨b, o, r, rfl, _, hr, cr, ok1⟩ := T1.get (k := j) (by omega)
      obtain ⟨b', o', r', rfl, _, hr', cr', ok2⟩ := T2.get hlj
      have hn : r.n = r'.n := by
        have h1 := unhide HL2 j r r' hr hr'
        rw [ok1.reads.len, ok2.reads.len] at h1
        exact h1
      rw [← hn] at cr'
      have hlt : r.n ≤ maxLen := ok1.len
      unfold maxLen at hlt
      obtain ⟨rA, rn, rc, rl⟩ := r
      obtain ⟨sA, sn, sc, sl⟩ := r'
      dsimp only at cr cr' hlt
      have de : ((rn : Int) != (rn : Int)) = false := by simp
      have hjn : j < nt := by omega
      clear hr hr' ok1 ok2 hn
      go_wp2_with fail
      go_quiet (fail)
      go_wp2_with fail
      go_roundw
      case rel => exact ⟨j + 1, q + nq, by omega, by go_num, by first | rfl | rw [World.drewN_drewN]⟩
      case measure => simp [intOf]; omega
    · by_cases he : nt = nt2
      · have d1 : ((nt : Int) == (nt2 : Int)) = true := by simp [he]
        have hab := unhide HL3 he
        have d2 : (va == vb) = true := by simpa using hab
        clear he hab
        go_wp2_with fail
        go_ret
        exact ⟨rfl, below_drewN hBE q⟩
      · have d1 : ((nt : Int) == (nt2 : Int)) = false := by simp; omega
        have hab := unhide HL4 he
        have d2 : decide (va < vb) = true := decide_eq_true hab
        clear he hab
        go_wp2_with fail
        go_ret
        exact ⟨rfl, below_drewN hBE q⟩
end Go.Proofs.Ytdpijhnbhopnbaa
/- From an argument's reading to the words of the walks: a slice of nodes. Conditions: none. -/
namespace Go.Proofs.Ytdpijhnbhopnbaa
set_option linter.unusedVariables false
set_option linter.unusedSimpArgs false
open Go.RowKit Go.ChangeShapes Go.WideShapes Go.Deep

theorem reads_flat {α : Type} {w : World} {size n : Nat} {a : Addr} (f : α → List Value) (hf : ∀ x, (f x).length = size) (hs : 0 < size) (l : List α) (hl : l.length = n) (hb : 0 < n → a.block < w.heap.size)
    (h : ∀ (i : Nat) x, l[i]? = some x → ∀ (r : Nat) u, r < size → (f x)[r]? = some u → w.cell? (a.add (i * size + r)) = some u) : Reads w w.heap.size size (some a) n (l.flatMap f) := by
  refine ⟨by rw [flatMap_len f size hf, hl], fun hn => ⟨a, rfl, hb hn, fun j u hu => ?_⟩⟩
  have hj : j < n * size := by
    have := (List.getElem?_eq_some_iff.1 hu).1
    rwa [flatMap_len f size hf, hl] at this
  have hi : j / size < n := Nat.div_lt_of_lt_mul (by rwa [Nat.mul_comm])
  have hx : l[j / size]? = some l[j / size] := List.getElem?_eq_getElem (by omega)
  have hr : j % size < size := Nat.mod_lt _ hs
  have e : j / size * size + j % size = j := by rw [Nat.mul_comm]; exact Nat.div_add_mod j size
  have := flatMap_at f size hf l (j / size) (j % size) _ hx hr
  rw [e, hu] at this
  have := h _ _ hx _ u hr this.symm
  rwa [e] at this

theorem arg_nodes {H : Type} {enc : TypeId × Value → H} {w : World} {sp : Nat → Bool} {A : Option Addr} {n c : Nat} {d : DataW H} {p : List MemPlace}
    (h : DataW.Trod enc Try.prog w 0 sp true 26 (.slice A n c) d p) : ∃ t : List Nd, NReads w w.heap.size A n t ∧ n ≤ maxLen ∧ n ≤ c := by
  obtain ⟨fuel, hf⟩ := h
  rcases open_slice_fields Try.underlying26 Try.underlying32 (by kernel_rfl) (by kernel_rfl) hf with ⟨hcs, _⟩ | ⟨a, len, cap, m, D, Pl, hcs, _, hl, hm, hmm, _, hi⟩
  · simp [Value.cells] at hcs
    obtain ⟨rfl, rfl, rfl⟩ := hcs
    exact ⟨[], ⟨by simp, fun h0 => absurd h0 (by omega)⟩, Nat.zero_le _, Nat.le_refl _⟩
  · simp [Value.cells] at hcs
    obtain ⟨rfl, rfl, rfl⟩ := hcs
    have hmn : n ≤ m := by rw [hmm]; split <;> omega
    have key : ∀ i, i < n → ∃ x : Nd, ∀ (r : Nat) u, r < 6 → (Nd.cells x)[r]? = some u → w.cell? (a.add (i * 6 + r)) = some u := by
      intro i hin
      obtain ⟨ys, q, _, _, _, hfl⟩ := hi i (by omega)
      obtain ⟨v0, y0, c0, _, t0⟩ := hfl 0 _ rfl
      obtain ⟨v1, y1, c1, _, t1⟩ := hfl 1 _ rfl
      obtain ⟨v2, y2, c2, _, t2⟩ := hfl 2 _ rfl
      obtain ⟨v3, y3, c3, _, t3⟩ := hfl 3 _ rfl
      obtain ⟨v4, y4, c4, _, t4⟩ := hfl 4 _ rfl
      obtain ⟨v5, y5, c5, _, t5⟩ := hfl 5 _ rfl
      obtain ⟨x0, e0, _⟩ := DataW.trod_int Try.underlying3 t0
      obtain ⟨x1, e1, _⟩ := DataW.trod_int Try.underlying3 t1
      obtain ⟨x2, e2, _⟩ := DataW.trod_int Try.underlying3 t2
      obtain ⟨x3, e3, _⟩ := DataW.trod_int Try.underlying3 t3
      obtain ⟨x4, e4, _⟩ := DataW.trod_bool Try.underlying4 t4
      obtain ⟨x5, e5, _⟩ := DataW.trod_int Try.underlying3 t5
      simp at e0 e1 e2 e3 e4 e5
      subst e0 e1 e2 e3 e4 e5
      refine ⟨⟨x0, x1, x2, x3, x4, x5⟩, fun r u hr hu => ?_⟩
      match r, hr with
      | 0, _ => simp [Nd.cells] at hu; subst hu; exact c0
      | 1, _ => simp [Nd.cells] at hu; subst hu; exact c1
      | 2, _ => simp [Nd.cells] at hu; subst hu; exact c2
      | 3, _ => simp [Nd.cells] at hu; subst hu; exact c3
      | 4, _ => simp [Nd.cells] at hu; subst hu; exact c4
      | 5, _ => simp [Nd.cells] at hu; subst hu; exact c5
    have key2 : ∀ i, ∃ x : Nd, i < n → ∀ (r : Nat) u, r < 6 → (Nd.cells x)[r]? = some u → w.cell? (a.add (i * 6 + r)) = some u := by
      intro i
      by_cases hin : i < n
      · obtain ⟨x, hx⟩ := key i hin
        exact ⟨x, fun _ => hx⟩
      · exact ⟨⟨0, 0, 0, 0, false, 0⟩, fun h => absurd h hin⟩
    refine ⟨(List.range n).map (fun i => Classical.choose (key2 i)), reads_flat Nd.cells (fun _ => rfl) (by omega) _ (by simp) ?_ ?_, by omega, hl⟩
    · intro hn
      obtain ⟨x, hx⟩ := key 0 hn
      have := cell_lt (hx 0 _ (by omega) rfl)
      rwa [block_of_add] at this
    · intro i x hx r u hr hu
      simp only [List.getElem?_map, Option.map_eq_some_iff] at hx
      obtain ⟨j, hj, rfl⟩ := hx
      obtain ⟨hjl, rfl⟩ := List.getElem?_eq_some_iff.1 hj
      simp only [List.getElem_range] at hu
      exact Classical.choose_spec (key2 i) (by simpa using hjl) r u hr hu
end Go.Proofs.Ytdpijhnbhopnbaa
/- From an argument's reading to the words of the walks: a grove. Conditions: none. -/
namespace Go.Proofs.Ytdpijhnbhopnbaa
set_option linter.unusedVariables false
set_option linter.unusedSimpArgs false
open Go.RowKit Go.ChangeShapes Go.WideShapes Go.Deep Go.Joins

theorem choose_list {α : Type} [Inhabited α] {n : Nat} {P : Nat → α → Prop} (h : ∀ i, i < n → ∃ x, P i x) : ∃ l : List α, l.length = n ∧ ∀ (i : Nat) x, l[i]? = some x → P i x := by
  have key : ∀ i, ∃ x : α, i < n → P i x := fun i => by
    by_cases hin : i < n
    · obtain ⟨x, hx⟩ := h i hin; exact ⟨x, fun _ => hx⟩
    · exact ⟨default, fun h => absurd h hin⟩
  refine ⟨(List.range n).map (fun i => Classical.choose (key i)), by simp, fun i x hx => ?_⟩
  simp only [List.getElem?_map, Option.map_eq_some_iff] at hx
  obtain ⟨j, hj, rfl⟩ := hx
  obtain ⟨hjl, rfl⟩ := List.getElem?_eq_some_iff.1 hj
  simp only [List.getElem_range]
  exact Classical.choose_spec (key i) (by simpa using hjl)
instance : Inhabited Tr := ⟨⟨none, 0, 0, []⟩⟩
/-- a slice's cell: its form, and nil's -/
theorem slice_form {H : Type} {enc : TypeId × Value → H} {P : Program} {w : World} {base : Nat} {sp : Nat → Bool} {held : Bool} {t e : TypeId} {fuel : Nat} {v : Value} {x : DataW H × List MemPlace} (ht : P.underlying t = some (.slice e)) (h : DataW.trod enc P w base sp held fuel t [v] = some x) :
    ∃ A n c, v = .slice A n c ∧ (A = none → c = 0) ∧ n ≤ c := by
  rcases open_slice ht h with ⟨h0, _⟩ | ⟨a, len, cap, m, k, D, Pl, hcs, _, hl, _⟩
  · injection h0 with h0; subst h0; exact ⟨none, 0, 0, rfl, fun _ => rfl, Nat.le_refl _⟩
  · injection hcs with hcs; subst hcs; exact ⟨some a, len, cap, rfl, (fun e => by cases e), hl⟩

theorem arg_trees {H : Type} {enc : TypeId × Value → H} {w : World} {sp : Nat → Bool} {fuel : Nat} {A : Option Addr} {n c : Nat} {x : DataW H × List MemPlace}
    (h : DataW.trod enc Try.prog w 0 sp true fuel 44 [.slice A n c] = some x) : ∃ ts : List Tr, TReads w w.heap.size A n ts ∧ n ≤ maxLen ∧ (A = none → c = 0) := by
  rcases open_slice Try.underlying44 h with ⟨hcs, _⟩ | ⟨a, len, cap, m, k, D, Pl, hcs, _, hl, hm, hmm, _, hi⟩
  · injection hcs with hcs
    injection hcs with e1 e2 e3
    subst e1 e2 e3
    exact ⟨[], ⟨⟨by simp, fun h0 => absurd h0 (by omega)⟩, fun r hr => by cases hr⟩, Nat.zero_le _, fun _ => rfl⟩
  · injection hcs with hcs
    injection hcs with e1 e2 e3
    subst e1 e2 e3
    have hmn : n ≤ m := by rw [hmm]; split <;> omega
    have hC : Try.prog.cellsOf 26 = 1 := by kernel_rfl
    rw [hC] at hi
    obtain ⟨ts, hlen, hts⟩ := choose_list (n := n) (P := fun i (r : Tr) => w.cell? (a.add i) = some r.val ∧ TrOk w w.heap.size r) (fun i hin => by
      obtain ⟨cs', hc, ht⟩ := hi i (by omega)
      obtain ⟨_, hcl, hat⟩ := World.cells?_some hc
      have h1 := hat 0 (by omega)
      obtain ⟨v, rfl⟩ : ∃ v, cs' = [v] := by
        match cs', hcl with
        | [v], _ => exact ⟨v, rfl⟩
      obtain ⟨A', n', c', rfl, hnil, _⟩ := slice_form Try.underlying26 ht
      obtain ⟨t, hr, hn, _⟩ := arg_nodes (sp := sp) (c := c') ⟨k, ht⟩
      refine ⟨⟨A', n', c', t⟩, ?_, hr, hn, hnil⟩
      have e : (a.add (i * 1)).add 0 = a.add i := by rw [add_of_add]; simp
      rw [e] at h1
      exact h1)
    refine ⟨ts, ⟨⟨by simp [hlen], fun h0 => ⟨a, rfl, ?_, fun j u hu => ?_⟩⟩, fun r hr => ?_⟩, by omega, fun e => by cases e⟩
    · obtain ⟨t0, ht0⟩ : ∃ t0, ts[0]? = some t0 := ⟨ts[0]'(by omega), List.getElem?_eq_getElem _⟩
      have := cell_lt (hts 0 t0 ht0).1
      rwa [block_of_add] at this
    · rw [List.getElem?_map, Option.map_eq_some_iff] at hu
      obtain ⟨r, hr, rfl⟩ := hu
      exact (hts j r hr).1
    · obtain ⟨i, hi'⟩ := List.mem_iff_getElem?.1 hr
      exact (hts i r hi').2

set_option maxRecDepth 100000 in
theorem arg_grove {H : Type} {enc : TypeId × Value → H} {w : World} {sp : Nat → Bool} {r : Reach} {b0 : Nat} {v : Value} {d : DataW H} {p : List MemPlace}
    (hv : Value.okWide Try.prog w r b0 46 v) (h : DataW.Trod enc Try.prog w 0 sp true 46 v d p) : ∃ g : Gv, v = g.val ∧ GReads w w.heap.size g := by
  obtain ⟨v0, v1, v2, v3, y0, y1, y2, y3, n, rfl, _, _, t0, t1, t2, t3⟩ := open_agg4 Try.underlying46 (by kernel_rfl) (by kernel_rfl) hv h
  obtain ⟨x0, e0, _⟩ := DataW.trod_int Try.underlying3 t0
  obtain ⟨x1, e1, _⟩ := DataW.trod_int Try.underlying3 t1
  simp at e0 e1
  subst e0 e1
  obtain ⟨Aw, nw, cw, rfl, hnw, _⟩ := slice_form Try.underlying23 t2
  obtain ⟨At, nt, ct, rfl, hnt, _⟩ := slice_form Try.underlying44 t3
  obtain ⟨ws, g1, g2, _⟩ := arg_ints (sp := sp) (c := cw) Try.underlying23 Try.underlying3 (by kernel_rfl) ⟨n, t2⟩
  obtain ⟨ts, g3, g4, _⟩ := arg_trees t3
  exact ⟨⟨x0, x1, Aw, nw, cw, ws, At, nt, ct, ts⟩, rfl, g1, g3, g2, g4, hnw, hnt⟩
end Go.Proofs.Ytdpijhnbhopnbaa
/- From an argument's reading to the words of the walks: a slice of samples. Conditions: none. -/
namespace Go.Proofs.Ytdpijhnbhopnbaa
set_option linter.unusedVariables false
set_option linter.unusedSimpArgs false
open Go.RowKit Go.ChangeShapes Go.WideShapes Go.Deep Go.Joins

set_option maxRecDepth 100000 in
theorem arg_samples {H : Type} {enc : TypeId × Value → H} {w : World} {sp : Nat → Bool} {A : Option Addr} {n c : Nat} {d : DataW H} {p : List MemPlace}
    (h : DataW.Trod enc Try.prog w 0 sp true 22 (.slice A n c) d p) : ∃ ss : List Sm, MReads w w.heap.size A n ss ∧ n ≤ maxLen ∧ n ≤ c ∧ (A = none → c = 0) := by
  obtain ⟨fuel, hf⟩ := h
  rcases open_slice_fields Try.underlying22 Try.underlying25 (by kernel_rfl) (by kernel_rfl) hf with ⟨hcs, _⟩ | ⟨a, len, cap, m, D, Pl, hcs, _, hl, hm, hmm, hx, hi⟩
  · simp [Value.cells] at hcs
    obtain ⟨rfl, rfl, rfl⟩ := hcs
    exact ⟨[], ⟨⟨by simp, fun h0 => absurd h0 (by omega)⟩, fun r hr => by cases hr⟩, Nat.zero_le _, Nat.le_refl _, fun _ => rfl⟩
  · simp [Value.cells] at hcs
    obtain ⟨rfl, rfl, rfl⟩ := hcs
    have hmn : n ≤ m := by rw [hmm]; split <;> omega
    have key : ∀ i, i < n → ∃ x : Sm, (∀ (r : Nat) u, r < 2 → (Sm.cells x)[r]? = some u → w.cell? (a.add (i * 2 + r)) = some u) ∧ SmOk w w.heap.size x := by
      intro i hin
      obtain ⟨ys, q, _, _, _, hfl⟩ := hi i (by omega)
      obtain ⟨v0, y0, c0, _, t0⟩ := hfl 0 _ rfl
      obtain ⟨v1, y1, c1, _, t1⟩ := hfl 1 _ rfl
      obtain ⟨x1, e1, _⟩ := DataW.trod_int Try.underlying3 t1
      simp at e1
      subst e1
      obtain ⟨A0, n0, k0, rfl, _, _⟩ := slice_form Try.underlying23 t0
      obtain ⟨l0, g1, g2, _⟩ := arg_ints (sp := sp) (c := k0) Try.underlying23 Try.underlying3 (by kernel_rfl) ⟨_, t0⟩
      refine ⟨⟨A0, n0, k0, l0, x1⟩, fun r u hr hu => ?_, ⟨g1, g2⟩⟩
      match r, hr with
      | 0, _ => simp [Sm.cells] at hu; subst hu; exact c0
      | 1, _ => simp [Sm.cells] at hu; subst hu; exact c1
    obtain ⟨ts, hlen2, hts⟩ := choose_list (n := n) key
    refine ⟨ts, ⟨reads_flat Sm.cells (fun _ => rfl) (by omega) _ hlen2 ?_ (fun i x hx => (hts i x hx).1), fun r hr => ?_⟩, by omega, hl, fun e => by cases e⟩
    · intro hn
      obtain ⟨x, hx, _⟩ := key 0 hn
      have := cell_lt (hx 0 _ (by omega) rfl)
      rwa [block_of_add] at this
    · obtain ⟨i, hi'⟩ := List.mem_iff_getElem?.1 hr
      exact (hts i r hi').2
end Go.Proofs.Ytdpijhnbhopnbaa
