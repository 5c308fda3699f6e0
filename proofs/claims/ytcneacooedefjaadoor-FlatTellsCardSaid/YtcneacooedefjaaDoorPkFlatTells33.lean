/- Part 33 of what LawFlatTells needs: Groves. Conditions: as each lemma names. -/
import Derived.Test.YtcneacooedefjaaDoorPkFlatTells32
import Derived.Test.YtcneacooedefjaaDoorPkFlatTells20
import Derived.Deep.RegionHeld3
/- differ.Groves: contract. Conditions: both groves read as data. -/
namespace Go.Proofs.YtcneacooedefjaaDoor
set_option linter.unusedVariables false
set_option linter.unusedSimpArgs false
open Go.RowKit

theorem Blk.cells4d {w : World} {g : Nat} {T : TypeId} {x0 x1 x2 x3 : Value} (h : Blk w g T #[x0, x1, x2, x3]) : w.cell? ⟨g, 0, none⟩ = some x0 ∧ w.cell? ⟨g, 1, none⟩ = some x1 ∧ w.cell? ⟨g, 2, none⟩ = some x2 ∧ w.cell? ⟨g, 3, none⟩ = some x3 :=
  ⟨h.cell 0, h.cell 1, h.cell 2, h.cell 3⟩
/-- the first place at which p -/
def findD (p : Nat → Bool) (i : Nat) : Nat → Nat × Int
  | 0 => (0, 5)
  | m + 1 => if p i then (i, 0) else findD p (i + 1) m
def trAt (g : Gv) (i : Nat) : List Nd := match g.ts[i]? with
  | some r => r.l
  | none => []
def diffAt (a b : Gv) (i : Nat) : Bool := !(pairsL (trAt a i) (trAt b i) a.f.toNat).isEmpty || (a.ws.getD i 0 != b.ws.getD i 0)
def grovesC (a b : Gv) : Nat × Int :=
  if a.e = 0 then (if b.e = 0 then (if a.f = b.f then (if a.way = b.way then (if a.ts.length = b.ts.length then findD (diffAt a b) 0 a.ts.length else (0, 3)) else (0, 3)) else (0, 3)) else (0, b.e)) else (0, a.e)
def GrovesPost (a b : Gv) (w : World) (e : Ending) (w' : World) : Prop := e = .returned (.tuple #[.int .i64 (grovesC a b).1, errV (grovesC a b).2]) ∧ Below w.heap.size w w'
theorem findD_hit {p : Nat → Bool} {i m : Nat} {R : Nat × Int} (h : findD p i (m + 1) = R) (hp : p i = true) : R = (i, 0) := by rw [← h, findD, if_pos hp]
theorem findD_miss {p : Nat → Bool} {i m : Nat} {R : Nat × Int} (h : findD p i (m + 1) = R) (hp : p i = false) : findD p (i + 1) m = R := by rw [← h, findD, if_neg (by simp [hp])]

theorem dbox (w : World) (f way : Int) (Aw : Option Addr) (nw cw : Nat) (At : Option Addr) (nt ct : Nat) (f' way' : Int) (Aw' : Option Addr) (nw' cw' : Nat) (At' : Option Addr) (nt' ct' : Nat) : ∃ W, W = ((w.alloc (.cells #[.int .i64 f, .int .i64 way, .slice Aw nw cw, .slice At nt ct] 25)).alloc (.cells #[.int .i64 f', .int .i64 way', .slice Aw' nw' cw', .slice At' nt' ct'] 25)).alloc
      (.cells #[.int .i64 f, .int .i64 way, .slice Aw nw cw, .slice At nt ct, .int .i64 f', .int .i64 way', .slice Aw' nw' cw', .slice At' nt' ct'] 25) ∧
    Blk W w.heap.size 25 #[.int .i64 f, .int .i64 way, .slice Aw nw cw, .slice At nt ct] ∧ Blk W (w.heap.size + 1) 25 #[.int .i64 f', .int .i64 way', .slice Aw' nw' cw', .slice At' nt' ct'] ∧
    Blk W (w.heap.size + 1 + 1) 25 #[.int .i64 f, .int .i64 way, .slice Aw nw cw, .slice At nt ct, .int .i64 f', .int .i64 way', .slice Aw' nw' cw', .slice At' nt' ct'] ∧
    W.heap.size = w.heap.size + 1 + 1 + 1 ∧ Below w.heap.size w W := by
  refine ⟨_, rfl, ((Blk.new _ _ _).alloc _).alloc _, ?_, ?_, by simp, (((Below.refl _ _).alloc (Nat.le_refl _) _).alloc (by simp) _).alloc (by simp; omega) _⟩
  · have := Blk.new (w.alloc (.cells #[.int .i64 f, .int .i64 way, .slice Aw nw cw, .slice At nt ct] 25)) 25 #[.int .i64 f', .int .i64 way', .slice Aw' nw' cw', .slice At' nt' ct']
    rw [World.size_alloc] at this
    exact this.alloc _
  · have := Blk.new ((w.alloc (.cells #[.int .i64 f, .int .i64 way, .slice Aw nw cw, .slice At nt ct] 25)).alloc (.cells #[.int .i64 f', .int .i64 way', .slice Aw' nw' cw', .slice At' nt' ct'] 25)) 25 #[.int .i64 f, .int .i64 way, .slice Aw nw cw, .slice At nt ct, .int .i64 f', .int .i64 way', .slice Aw' nw' cw', .slice At' nt' ct']
    rw [World.size_alloc, World.size_alloc] at this
    exact this

set_option maxRecDepth 100000 in
set_option maxHeartbeats 4000000 in
theorem groves_any (a b : Gv) (w : World) (ha : GReads w w.heap.size a) (hb : GReads w w.heap.size b) :
    Calls Tryd.prog 9 #[a.val, b.val] w (GrovesPost a b w) := by
  have hca : Hid (∀ W, Below w.heap.size w W → Calls Tryd.prog 6 #[a.val] W fun e w' => e = .returned (errV a.e) ∧ Below W.heap.size W w') := hide (fun W hB => gcheck_any a W ((ha.below hB).more hB.size))
  have hcb : Hid (∀ W, Below w.heap.size w W → Calls Tryd.prog 6 #[b.val] W fun e w' => e = .returned (errV b.e) ∧ Below W.heap.size W w') := hide (fun W hB => gcheck_any b W ((hb.below hB).more hB.size))
  by_cases h1 : a.e = 0
  case neg =>
    have HE : Hid (grovesC a b = (0, a.e)) := hide (by unfold grovesC; rw [if_neg h1])
    have hv := errV_1 h1
    have HV := hide hv
    clear h1 ha hb hcb
    obtain ⟨E, hE⟩ : ∃ E, E = a.e := ⟨_, rfl⟩
    rw [← hE] at hca hv HV HE
    clear hE
    obtain ⟨f, way, Aw, nw, cw, ws, At, nt, ct, ts⟩ := a
    obtain ⟨f', way', Aw', nw', cw', ws', At', nt', ct', ts'⟩ := b
    simp only [Gv.val] at hca ⊢
    obtain ⟨W, hW, ba, bb, bl, hWs, hB0⟩ := dbox w f way Aw nw cw At nt ct f' way' Aw' nw' cw' At' nt' ct'
    have l0 := bl.cell 0
    have l1 := bl.cell 1
    have l2 := bl.cell 2
    have l3 := bl.cell 3
    simp at l0 l1 l2 l3
    have hB1 : Below w.heap.size w (W.alloc (.cells #[.int .i64 f, .int .i64 way, .slice Aw nw cw, .slice At nt ct] 25)) := hB0.alloc (by omega) _
    have hc1 := hide (unhide hca _ hB1)
    go_enter Tryd.func9, Tryd.ntmps9
    go_wp2_with fail
    rw [← hW]
    clear hW hca
    refine wp_loop_rounds 3 ?_
    rw [rounds_succ]
    go_wp2_with fail
    refine (unhide hc1).mono ?_
    rintro e w1 ⟨rfl, hb1⟩
    rw [hv]
    clear hv hc1
    go_wp2_with fail
    go_ret2
    exact ⟨by rw [unhide HE]; simp only [unhide HV]; rfl, hB1.trans (hb1.mono hB1.size)⟩
  have hv1 := errV_0 h1
  have HV1 := hide hv1
  by_cases h2 : b.e = 0
  case neg =>
    have HE : Hid (grovesC a b = (0, b.e)) := hide (by unfold grovesC; rw [if_pos h1, if_neg h2])
    have hv := errV_1 h2
    have HV := hide hv
    clear h1 h2 ha hb hv1
    obtain ⟨E, hE⟩ : ∃ E, E = b.e := ⟨_, rfl⟩
    rw [← hE] at hcb hv HV HE
    clear hE
    obtain ⟨f, way, Aw, nw, cw, ws, At, nt, ct, ts⟩ := a
    obtain ⟨f', way', Aw', nw', cw', ws', At', nt', ct', ts'⟩ := b
    simp only [Gv.val] at hca hcb ⊢
    obtain ⟨W, hW, ba, bb, bl, hWs, hB0⟩ := dbox w f way Aw nw cw At nt ct f' way' Aw' nw' cw' At' nt' ct'
    have l0 := bl.cell 0
    have l1 := bl.cell 1
    have l2 := bl.cell 2
    have l3 := bl.cell 3
    simp at l0 l1 l2 l3
    have hB1 : Below w.heap.size w (W.alloc (.cells #[.int .i64 f, .int .i64 way, .slice Aw nw cw, .slice At nt ct] 25)) := hB0.alloc (by omega) _
    have bl1 := bl.alloc (.cells #[.int .i64 f, .int .i64 way, .slice Aw nw cw, .slice At nt ct] 25)
    have hs1 : (W.alloc (.cells #[.int .i64 f, .int .i64 way, .slice Aw nw cw, .slice At nt ct] 25)).heap.size = w.heap.size + 1 + 1 + 1 + 1 := by rw [World.size_alloc, hWs]
    have hc1 := hide (unhide hca _ hB1)
    go_enter Tryd.func9, Tryd.ntmps9
    go_wp2_with fail
    rw [← hW]
    clear hW hca
    refine wp_loop_rounds 3 ?_
    rw [rounds_succ]
    go_wp2_with fail
    refine (unhide hc1).mono ?_
    rintro e w1 ⟨rfl, hb1⟩
    rw [unhide HV1]
    have z1 := hb1.size
    have bl2 := bl1.below hb1 (by omega)
    have hBw1 := hB1.trans (hb1.mono (by omega))
    clear bl1 bl ba bb hc1 hb1 hB1 hB0 l0 l1 l2 l3
    have l4 := bl2.cell 4
    have l5 := bl2.cell 5
    have l6 := bl2.cell 6
    have l7 := bl2.cell 7
    simp at l4 l5 l6 l7
    have hB3 : Below w.heap.size w (w1.alloc (.cells #[.int .i64 f', .int .i64 way', .slice Aw' nw' cw', .slice At' nt' ct'] 25)) := hBw1.alloc (by omega) _
    have hc2 := hide (unhide hcb _ hB3)
    clear hcb bl2
    go_wp2_with fail
    rw [rounds_succ]
    go_wp2_with fail
    refine (unhide hc2).mono ?_
    rintro e w3 ⟨rfl, hb3⟩
    rw [hv]
    clear hc2 hv
    go_wp2_with fail
    go_ret2
    exact ⟨by rw [unhide HE]; simp only [unhide HV]; rfl, hB3.trans (hb3.mono hB3.size)⟩
  have hv2 := errV_0 h2
  have HV2 := hide hv2
  have hGa := groveE_right h1
  have hGb := groveE_right h2
  have HC : Hid (grovesC a b = if a.f = b.f then (if a.way = b.way then (if a.ts.length = b.ts.length then findD (diffAt a b) 0 a.ts.length else (0, 3)) else (0, 3)) else (0, 3)) := hide (by unfold grovesC; rw [if_pos h1, if_pos h2])
  have hla := ha.ts.len
  have hlb := hb.ts.len
  have hwa := ha.ws.len
  have hwb := hb.ws.len
  have hf0 := hGa.f0
  have hf8 := hGa.f8
  have hm1 := hGa.most
  have hm2 := hGb.most
  have hw1 := hGa.wlen
  have hw2 := hGb.wlen
  have HTA : Hid (∀ r ∈ a.ts, Right r.l a.f) := hide (fun r hr => right_of (hGa.trees r hr))
  have HTB : Hid (∀ r ∈ b.ts, Right r.l b.f) := hide (fun r hr => right_of (hGb.trees r hr))
  obtain ⟨R, hR⟩ : ∃ R, R = grovesC a b := ⟨_, rfl⟩
  obtain ⟨P, hP⟩ : ∃ P, P = diffAt a b := ⟨_, rfl⟩
  have HP := hide hP
  rw [← hR, ← hP] at HC
  have HRR := hide hR
  have haw := ha.ws
  have hat := ha.ts
  have hbw := hb.ws
  have hbt := hb.ts
  clear h1 h2 hGa hGb hR hP ha hb hv1 hv2
  obtain ⟨f, way, Aw, nw, cw, ws, At, nt, ct, ts⟩ := a
  obtain ⟨f', way', Aw', nw', cw', ws', At', nt', ct', ts'⟩ := b
  dsimp only at HC hla hlb hwa hwb hf0 hf8 hm1 hm2 hw1 hw2 HTA HTB haw hat hbw hbt
  unfold GrovesPost
  rw [← unhide HRR]
  simp only [Gv.val] at hca hcb ⊢
  obtain ⟨W, hW, ba, bb, bl, hWs, hB0⟩ := dbox w f way Aw nw cw At nt ct f' way' Aw' nw' cw' At' nt' ct'
  have l0 := bl.cell 0
  have l1 := bl.cell 1
  have l2 := bl.cell 2
  have l3 := bl.cell 3
  simp at l0 l1 l2 l3
  have hB1 : Below w.heap.size w (W.alloc (.cells #[.int .i64 f, .int .i64 way, .slice Aw nw cw, .slice At nt ct] 25)) := hB0.alloc (by omega) _
  have bl1 := bl.alloc (.cells #[.int .i64 f, .int .i64 way, .slice Aw nw cw, .slice At nt ct] 25)
  have ba1 := ba.alloc (.cells #[.int .i64 f, .int .i64 way, .slice Aw nw cw, .slice At nt ct] 25)
  have bb1 := bb.alloc (.cells #[.int .i64 f, .int .i64 way, .slice Aw nw cw, .slice At nt ct] 25)
  have hs1 : (W.alloc (.cells #[.int .i64 f, .int .i64 way, .slice Aw nw cw, .slice At nt ct] 25)).heap.size = w.heap.size + 1 + 1 + 1 + 1 := by rw [World.size_alloc, hWs]
  have hc1 := hide (unhide hca _ hB1)
  go_enter Tryd.func9, Tryd.ntmps9
  go_wp2_with fail
  rw [← hW]
  clear hW hca
  refine wp_loop_rounds 3 ?_
  rw [rounds_succ]
  go_wp2_with fail
  refine (unhide hc1).mono ?_
  rintro e w1 ⟨rfl, hb1⟩
  rw [unhide HV1]
  have z1 := hb1.size
  have bl2 := bl1.below hb1 (by omega)
  have ba2 := ba1.below hb1 (by omega)
  have bb2 := bb1.below hb1 (by omega)
  have hBw1 := hB1.trans (hb1.mono (by omega))
  clear bl1 bl ba bb ba1 bb1 hc1 hb1 hB1 hB0 l0 l1 l2 l3
  have l4 := bl2.cell 4
  have l5 := bl2.cell 5
  have l6 := bl2.cell 6
  have l7 := bl2.cell 7
  simp at l4 l5 l6 l7
  have hB3 : Below w.heap.size w (w1.alloc (.cells #[.int .i64 f', .int .i64 way', .slice Aw' nw' cw', .slice At' nt' ct'] 25)) := hBw1.alloc (by omega) _
  have ba3 := ba2.alloc (.cells #[.int .i64 f', .int .i64 way', .slice Aw' nw' cw', .slice At' nt' ct'] 25)
  have bb3 := bb2.alloc (.cells #[.int .i64 f', .int .i64 way', .slice Aw' nw' cw', .slice At' nt' ct'] 25)
  have hs3 : (w1.alloc (.cells #[.int .i64 f', .int .i64 way', .slice Aw' nw' cw', .slice At' nt' ct'] 25)).heap.size = w1.heap.size + 1 := World.size_alloc _ _
  have hc2 := hide (unhide hcb _ hB3)
  clear hcb bl2 ba2 bb2
  go_wp2_with fail
  rw [rounds_succ]
  go_wp2_with fail
  refine (unhide hc2).mono ?_
  rintro e w3 ⟨rfl, hb3⟩
  rw [unhide HV2]
  have z3 := hb3.size
  have ba4 := ba3.below hb3 (by omega)
  have bb4 := bb3.below hb3 (by omega)
  have hBw3 := hB3.trans (hb3.mono (by omega))
  obtain ⟨x0, x1, x2, x3⟩ := ba4.cells4d
  obtain ⟨y0, y1, y2, y3⟩ := bb4.cells4d
  clear hc2 ba3 bb3 hb3 hB3 hBw1 l4 l5 l6 l7 hs3 hs1 z1
  have hla' : nt ≤ 12 := by omega
  have hlb' : nt' ≤ 12 := by omega
  by_cases g1 : f = f'
  case neg =>
    have HC3 : Hid (R = (0, 3)) := hide (by rw [unhide HC, if_neg g1])
    have t1 : (f != f') = true := by simpa using g1
    clear g1 HC
    go_wp2_with fail
    rw [rounds_succ]
    go_wp2_with fail
    go_ret2
    exact ⟨by rw [unhide HC3]; rw [errV_1 (e := 3) (by decide)]; rfl, hBw3⟩
  by_cases g2 : way = way'
  case neg =>
    have HC3 : Hid (R = (0, 3)) := hide (by rw [unhide HC, if_pos g1, if_neg g2])
    have t1 : (f != f') = false := by simpa using g1
    have t2 : (way != way') = true := by simpa using g2
    clear g1 g2 HC
    go_wp2_with fail
    rw [rounds_succ]
    go_wp2_with fail
    go_ret2
    exact ⟨by rw [unhide HC3]; rw [errV_1 (e := 3) (by decide)]; rfl, hBw3⟩
  by_cases g3 : nt = nt'
  case neg =>
    have HC3 : Hid (R = (0, 3)) := hide (by rw [unhide HC, if_pos g1, if_pos g2, if_neg (by omega)])
    have t1 : (f != f') = false := by simpa using g1
    have t2 : (way != way') = false := by simpa using g2
    have t3 : ((nt : Int) != (nt' : Int)) = true := by simpa using fun h : (nt : Int) = nt' => g3 (by omega)
    have t4 : (nt != nt') = true := by simpa using g3
    clear g1 g2 g3 HC
    go_wp2_with fail
    rw [rounds_succ]
    go_wp2_with fail
    go_ret2
    exact ⟨by rw [unhide HC3]; rw [errV_1 (e := 3) (by decide)]; rfl, hBw3⟩
  have HC3 : Hid (findD P 0 nt = R) := hide (by rw [unhide HC, if_pos g1, if_pos g2, if_pos (by omega), hla])
  subst g1 g2 g3
  clear HC
  obtain ⟨n, rfl⟩ : ∃ n : Nat, f = n := ⟨f.toNat, by omega⟩
  have hww : nw = nt := by omega
  have hww' : nw' = nt := by omega
  subst hww hww'
  have HLA := hide hla
  have HLB := hide hlb
  have HWA := hide hwa
  have HWB := hide hwb
  have e1 : ((n : Int) != (n : Int)) = false := by simp
  have e2 : (way != way) = false := by simp
  clear hla hlb hwa hwb hw1 hw2 hm1 hm2
  go_wp2_with fail
  rw [rounds_succ]
  go_wp2_with fail
  go_loopw [52] (fun i wr => ∃ k : Nat, k ≤ nw' ∧ i = .int .i64 k ∧ Hid (findD P k (nw' - k) = R) ∧ Below w3.heap.size w3 wr) (fun i _ => nw' - (intOf i).toNat)
  case atStart => exact ⟨0, Nat.zero_le _, rfl, HC3, Below.refl _ _⟩
  case round =>
    obtain ⟨k, hk, rfl, HF, hbel⟩ := hrel
    have hBr := hBw3.trans (hbel.mono hBw3.size)
    have hsr := hBr.size
    have lt4 := ba4.lt
    have lt5 := bb4.lt
    have ba5 := ba4.below hbel (by omega)
    have bb5 := bb4.below hbel (by omega)
    obtain ⟨x0, x1, x2, x3⟩ := ba5.cells4d
    obtain ⟨y0, y1, y2, y3⟩ := bb5.cells4d
    by_cases hlt : k < nw'
    · obtain ⟨m, hm⟩ : ∃ m, nw' - k = m + 1 := ⟨nw' - k - 1, by omega⟩
      obtain ⟨b1, o1, r, rfl, _, hr, cr, okr⟩ := (hat.below hBr).get hlt
      obtain ⟨b2, o2, r', rfl, hb2, hr', cr', okr'⟩ := (hbt.below hBr).get hlt
      obtain ⟨b3, o3, xa, rfl, hb3, hxa, ca⟩ := (haw.below hBr).get hlt
      obtain ⟨b4, o4, xb, rfl, hb4, hxb, cb⟩ := (hbw.below hBr).get hlt
      have HPK : Hid (P k = (!(pairsL r.l r'.l n).isEmpty || (xa != xb))) := hide (by
        rw [unhide HP]
        unfold diffAt trAt
        simp only [hr, hr', List.getD_eq_getElem?_getD, hxa, hxb, Option.getD_some, Int.toNat_natCast])
      have hRa := unhide HTA r (List.mem_of_getElem? hr)
      have hRb := unhide HTB r' (List.mem_of_getElem? hr')
      have HW := hide (fun (W : World) (hB : Below w.heap.size w W) => (fun (h1 : NReads W W.heap.size r.A r.n r.l) (h2 : NReads W W.heap.size r'.A r'.n r'.l) => witness_any r.A r'.A r.n r.c r'.n r'.c r.l r'.l n W h1 h2 hRa hRb))
      have hr1 : NReads wr.drew wr.drew.heap.size r.A r.n r.l := Reads.drew (okr.reads.more hsr)
      have hr2 : NReads wr.drew wr.drew.heap.size r'.A r'.n r'.l := Reads.drew (okr'.reads.more hsr)
      have HWW := hide (unhide HW _ hBr.drew hr1 hr2)
      have HM := hide hm
      have hlw1 : w.heap.size < wr.heap.size := by have := hbel.size; omega
      have hlw2 : w.heap.size + 1 < wr.heap.size := by have := hbel.size; omega
      have hlw3 : b2 < wr.heap.size := by omega
      obtain ⟨rA, rn, rc, rl⟩ := r
      obtain ⟨rA', rn', rc', rl'⟩ := r'
      dsimp only at cr cr' HPK HWW
      clear HW hr hr' hxa hxb hRa hRb hr1 hr2 okr okr' hm
      go_wp2_with fail
      go_region_held3 (fun w' => w'.cell? ⟨w.heap.size, 0, none⟩ = some (.int .i64 n) ∧ w'.cell? ⟨w.heap.size + 1, 3, none⟩ = some (.slice (some ⟨b2, o2, none⟩) nw' ct') ∧ w'.cell? ⟨b2, o2 + k, none⟩ = some (.slice rA' rn' rc'))
        (first | go_keep | exact ⟨(unhide hkk 0).trans x0, (unhide hkk1 3).trans y3, (unhide hkk2).trans cr'⟩)
        ((go_at_call 23
          refine (unhide HWW).mono ?_
          rintro e w4 ⟨A4, c4, rfl, _, _, hb5⟩
          generalize (if pairsL rl rl' n = [] then 0 else n) = N4
          have hb5' : Below wr.heap.size wr w4 := ⟨hb5.os, hb5.tape, hb5.output, hb5.size, hb5.block⟩
          have hkk : Hid (∀ o, w4.cell? ⟨w.heap.size, o, none⟩ = wr.cell? ⟨w.heap.size, o, none⟩) := hide (fun o => hb5'.cell (p := ⟨w.heap.size, o, none⟩) hlw1)
          have hkk1 : Hid (∀ o, w4.cell? ⟨w.heap.size + 1, o, none⟩ = wr.cell? ⟨w.heap.size + 1, o, none⟩) := hide (fun o => hb5'.cell (p := ⟨w.heap.size + 1, o, none⟩) hlw2)
          have hkk2 : Hid (w4.cell? ⟨b2, o2 + k, none⟩ = wr.cell? ⟨b2, o2 + k, none⟩) := hide (hb5'.cell (p := ⟨b2, o2 + k, none⟩) hlw3)))
      have hbel4 := hbel.trans (hb5'.mono hbel.size)
      have hBr4 := hBr.trans (hb5'.mono hsr)
      have ca4 := (hb5'.cell (p := ⟨b3, o3 + k, none⟩) (by show b3 < _; omega)).trans ca
      have cb4 := (hb5'.cell (p := ⟨b4, o4 + k, none⟩) (by show b4 < _; omega)).trans cb
      obtain ⟨x0', x1', x2', x3'⟩ := (ba5.below hb5' (by have := hbel.size; omega)).cells4d
      obtain ⟨y0', y1', y2', y3'⟩ := (bb5.below hb5' (by have := hbel.size; omega)).cells4d
      clear HWW hb5 hb5' hbel hBr x0 x1 x2 x3 y0 y1 y2 y3 cr cr' ca cb ba5 bb5
      obtain ⟨be, hbe⟩ : ∃ be, be = !(pairsL rl rl' n).isEmpty := ⟨_, rfl⟩
      rw [← hbe] at HPK ⊢
      clear hbe
      cases be
      · by_cases hx : xa = xb
        · have HPF : Hid (P k = false) := hide (by rw [unhide HPK]; simp [hx])
          have fx : (xa != xb) = false := by simp [hx]
          clear hx
          go_wp2_with fail
          go_quiet (fail)
          go_wp2_with fail
          go_roundw
          case rel => exact ⟨k + 1, by omega, by go_num, hide (by have := unhide HF; rw [unhide HM] at this; rw [show nw' - (k + 1) = m by have := unhide HM; omega]; exact findD_miss this (unhide HPF)), below_drewN hbel4 _⟩
          case measure => simp [intOf]; omega
        · have HPF : Hid (P k = true) := hide (by rw [unhide HPK]; simp [hx])
          have fx : (xa != xb) = true := by simpa using hx
          have HRK : Hid (R = (k, 0)) := hide (by have := unhide HF; rw [unhide HM] at this; exact findD_hit this (unhide HPF))
          clear hx
          go_wp2_with fail
          go_quiet (fail)
          go_wp2_with fail
          go_ret2
          exact ⟨by rw [unhide HRK]; rfl, below_drewN hBr4 _⟩
      · have HRK : Hid (R = (k, 0)) := hide (by have := unhide HF; rw [unhide HM] at this; exact findD_hit this (by rw [unhide HPK]; rfl))
        go_wp2_with fail
        go_quiet (fail)
        go_wp2_with fail
        go_ret2
        exact ⟨by rw [unhide HRK]; rfl, below_drewN hBr4 _⟩
    · have HR5 : Hid (R = (0, 5)) := hide (by rw [← unhide HF, show nw' - k = 0 by omega]; rfl)
      go_wp2_with fail
      go_ret2
      exact ⟨by rw [unhide HR5]; rw [errV_1 (e := 5) (by decide)]; rfl, hBr⟩
end Go.Proofs.YtcneacooedefjaaDoor
