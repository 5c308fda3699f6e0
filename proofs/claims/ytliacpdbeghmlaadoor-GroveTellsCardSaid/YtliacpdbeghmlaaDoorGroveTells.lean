/- GroveTells: the walk. Conditions: two groves and a row that read as data; the variable errors.errorType holds the handle of error. -/
import Derived.Test.YtliacpdbeghmlaaDoorRefGrove4
import Derived.Test.YtliacpdbeghmlaaDoorSameN
import Derived.Test.YtliacpdbeghmlaaDoorGroveJoin
import Derived.Test.YtliacpdbeghmlaaDoorTold2
import Derived.Deep.DeepCutAuto
import Derived.Deep.CutRange
namespace Go.Proofs.YtliacpdbeghmlaaDoor
set_option linter.unusedVariables false
set_option linter.unusedSimpArgs false
open Go.RowKit

/-- two groves lie in their boxes -/
structure TwoBox (w : World) (f way : Int) (Aw : Option Addr) (nw cw : Nat) (At : Option Addr) (nt ct : Nat) (f' way' : Int) (Aw' : Option Addr) (nw' cw' : Nat) (At' : Option Addr) (nt' ct' : Nat) (wx : World) : Prop where
  below : Below w.heap.size w wx
  size : w.heap.size + 1 + 1 ≤ wx.heap.size
  a : Blk wx w.heap.size 45 #[.int .i64 f, .int .i64 way, .slice Aw nw cw, .slice At nt ct]
  b : Blk wx (w.heap.size + 1) 45 #[.int .i64 f', .int .i64 way', .slice Aw' nw' cw', .slice At' nt' ct']
section
variable {w wx wy : World} {f way : Int} {Aw : Option Addr} {nw cw : Nat} {At : Option Addr} {nt ct : Nat} {f' way' : Int} {Aw' : Option Addr} {nw' cw' : Nat} {At' : Option Addr} {nt' ct' : Nat}
theorem TwoBox.next (h : TwoBox w f way Aw nw cw At nt ct f' way' Aw' nw' cw' At' nt' ct' wx) (hb : Below wx.heap.size wx wy) : TwoBox w f way Aw nw cw At nt ct f' way' Aw' nw' cw' At' nt' ct' wy :=
  ⟨h.below.trans (hb.mono (by have := h.size; omega)), Nat.le_trans h.size hb.size, h.a.below hb (by have := h.size; omega), h.b.below hb (by have := h.size; omega)⟩
theorem TwoBox.cells (h : TwoBox w f way Aw nw cw At nt ct f' way' Aw' nw' cw' At' nt' ct' wx) :
    (wx.cell? ⟨w.heap.size, 0, none⟩ = some (.int .i64 f) ∧ wx.cell? ⟨w.heap.size, 1, none⟩ = some (.int .i64 way) ∧ wx.cell? ⟨w.heap.size, 2, none⟩ = some (.slice Aw nw cw) ∧ wx.cell? ⟨w.heap.size, 3, none⟩ = some (.slice At nt ct)) ∧
    (wx.cell? ⟨w.heap.size + 1, 0, none⟩ = some (.int .i64 f') ∧ wx.cell? ⟨w.heap.size + 1, 1, none⟩ = some (.int .i64 way') ∧ wx.cell? ⟨w.heap.size + 1, 2, none⟩ = some (.slice Aw' nw' cw') ∧ wx.cell? ⟨w.heap.size + 1, 3, none⟩ = some (.slice At' nt' ct')) := ⟨h.a.cells4, h.b.cells4⟩
end

set_option maxRecDepth 100000 in
set_option maxHeartbeats 8000000 in
theorem groveTells_walk (g o : Gv) (C : Option Addr) (k q : Nat) (r : List Int) (w : World) (he : ErrT w) (hg : GReads w w.heap.size g) (ho : GReads w w.heap.size o) (hr : IReads w w.heap.size C k r) (hk : k ≤ maxLen) :
    Calls Tryd.prog 4 #[g.val, o.val, .slice C k q] w fun e w' => e = .returned (.bool true) ∧ Below w.heap.size w w' := by
  have cRG : Hid (∀ W, Below w.heap.size w W → Calls Tryd.prog 16 #[g.val] W fun e w' => e = .returned (.int .i64 g.e) ∧ Below W.heap.size W w') := hide (fun W hB => rgrove_any g W ((hg.below hB).more hB.size))
  have cRO : Hid (∀ W, Below w.heap.size w W → Calls Tryd.prog 16 #[o.val] W fun e w' => e = .returned (.int .i64 o.e) ∧ Below W.heap.size W w') := hide (fun W hB => rgrove_any o W ((ho.below hB).more hB.size))
  have cCk : Hid (∀ W, Below w.heap.size w W → Calls Tryd.prog 17 #[g.val] W fun e w' => e = .returned (errV g.e) ∧ Below W.heap.size W w') := hide (fun W hB => gcheck_any g W ((hg.below hB).more hB.size))
  have cSt : Hid (∀ W, Below w.heap.size w W → Calls Tryd.prog 18 #[g.val, .slice C k q] W fun e w' => e = .returned (.int .i64 (standE g r)) ∧ Below W.heap.size W w') := hide (fun W hB => rstand_any g C k q r W ((hg.below hB).more hB.size) ((hr.below hB).more hB.size) hk)
  have cRE : Hid (∀ W, standE g r = 0 → Below w.heap.size w W → Calls Tryd.prog 19 #[g.val, .slice C k q] W (IPost (eachV g r) W)) := hide (fun W h0 hB => reach_any g C k q r W ((hg.below hB).more hB.size) ((hr.below hB).more hB.size) hk h0)
  have cRT : Hid (∀ W v, standE g r = 0 → Below w.heap.size w W → IOwn W w.heap.size v (eachV g r) → Calls Tryd.prog 20 #[g.val, v] W fun e w' => e = .returned (.int .i64 (gevalV g r)) ∧ Below W.heap.size W w') := hide (fun W v h0 hB hv => by
    obtain ⟨hG, _, _⟩ := standE_0 h0
    obtain ⟨A, c, rfl, hrr, _, _, _⟩ := hv.slice_
    have e1 := hg.ws.len
    have e2 := hG.wlen
    have e3 := hG.most
    have e4 := hG.pos
    have hev : gevalV g r = togV g.way g.ws (eachV g r) := by unfold gevalV; rw [if_pos h0]
    rw [hev]
    exact rtog_any g A _ c (eachV g r) W ((hg.ws.below hB).more hB.size) hrr (by rw [eachV_len]; omega) (by rw [eachV_len]; omega) (by rw [eachV_len]; omega) hG.weights (eachV_in h0))
  have cEv : Hid (∀ W, Below w.heap.size w W → Calls Tryd.prog 22 #[g.val, .slice C k q] W fun e w' => e = .returned (.tuple #[.int .i64 (gevalV g r), errV (standE g r)]) ∧ Below W.heap.size W w') := hide (fun W hB => geval_any g C k q r W ((hg.below hB).more hB.size) ((hr.below hB).more hB.size) hk)
  have cEa : Hid (∀ W, Below w.heap.size w W → Calls Tryd.prog 21 #[g.val, .slice C k q] W (EachPost g r W)) := hide (fun W hB => each_any g C k q r W ((hg.below hB).more hB.size) ((hr.below hB).more hB.size) hk)
  have cBo : Hid (∀ W, Below w.heap.size w W → Calls Tryd.prog 25 #[g.val] W fun e w' => e = .returned (.tuple #[.int .i64 (boundsV g).1, .int .i64 (boundsV g).2, errV g.e]) ∧ Below W.heap.size W w') := hide (fun W hB => bounds_any g W ((hg.below hB).more hB.size))
  have cJo : Hid (∀ W, Below w.heap.size w W → Calls Tryd.prog 26 #[g.val, o.val] W (JoinPost g o W)) := hide (fun W hB => join_any g o W ((hg.below hB).more hB.size) ((ho.below hB).more hB.size))
  have cRB : Hid (∀ W v6 v7, g.e = 0 → Below w.heap.size w W → IOwn W w.heap.size v6 (g.ts.map fun t => Lib.minOf (leafVals t.l)) → IOwn W w.heap.size v7 (g.ts.map fun t => Lib.maxOf (leafVals t.l)) →
      Calls Tryd.prog 24 #[g.val, v6, v7] W fun e w' => e = .returned (.tuple #[.int .i64 (boundsV g).1, .int .i64 (boundsV g).2]) ∧ Below W.heap.size W w') := hide (fun W v6 v7 h0 hb o6 o7 => by
    have hG := groveE_right h0
    obtain ⟨A6, d6, rfl, r6, _, _, _⟩ := o6.slice_
    obtain ⟨A7, d7, rfl, r7, _, _, _⟩ := o7.slice_
    have hBV : boundsV g = betwV g.way g.ws (g.ts.map fun t => Lib.minOf (leafVals t.l)) (g.ts.map fun t => Lib.maxOf (leafVals t.l)) := by unfold boundsV; rw [if_pos h0]
    rw [hBV]
    have e1 := hg.ws.len
    have e2 := hG.wlen
    have e3 := hG.most
    have e4 := hG.pos
    refine rbetween_any g A6 A7 _ d6 _ d7 _ _ W ((hg.ws.below hb).more hb.size) r6 r7 (by simp; omega) (by simp; omega) (by omega) (by omega) hG.weights ?_ ?_
    · intro x hx
      obtain ⟨t, ht, rfl⟩ := List.mem_map.1 hx
      obtain ⟨h1, h2⟩ := leafVals_in (right_of (hG.trees t ht))
      exact h2 _ (minOf_spec h1).1
    · intro x hx
      obtain ⟨t, ht, rfl⟩ := List.mem_map.1 hx
      obtain ⟨h1, h2⟩ := leafVals_in (right_of (hG.trees t ht))
      exact h2 _ (maxOf_spec h1).1)
  obtain ⟨G, hGdef⟩ : ∃ G, G = g := ⟨_, rfl⟩
  obtain ⟨O, hOdef⟩ : ∃ O, O = o := ⟨_, rfl⟩
  have HG := hide hg
  have HO := hide ho
  rw [← hGdef] at cRG cCk cSt cRE cRT cEv cEa cBo cJo cRB HG
  rw [← hOdef] at cRO cJo HO
  obtain ⟨f, way, Aw, nw, cw, ws, At, nt, ct, ts⟩ := g
  obtain ⟨f', way', Aw', nw', cw', ws', At', nt', ct', ts'⟩ := o
  have eG : G.val = .agg #[.int .i64 f, .int .i64 way, .slice Aw nw cw, .slice At nt ct] := by rw [hGdef]; rfl
  have eO : O.val = .agg #[.int .i64 f', .int .i64 way', .slice Aw' nw' cw', .slice At' nt' ct'] := by rw [hOdef]; rfl
  rw [eG] at cRG cCk cSt cRE cRT cEv cEa cBo cJo cRB
  rw [eO] at cRO cJo
  have HGD := hide hGdef
  have HOD := hide hOdef
  have htr := hg.ts
  have hnt := hg.nt
  have hnw := hg.nw
  have hnt' := ho.nt
  dsimp only at htr hnt hnw hnt'
  unfold maxLen at hnt hnw hnt'
  clear hg ho eG eO hGdef hOdef
  simp only [Gv.val]
  obtain ⟨W, hW, bg, bo, hWs, hb0⟩ : ∃ W, W = (w.alloc (.cells #[.int .i64 f, .int .i64 way, .slice Aw nw cw, .slice At nt ct] 45)).alloc (.cells #[.int .i64 f', .int .i64 way', .slice Aw' nw' cw', .slice At' nt' ct'] 45) ∧
      Blk W w.heap.size 45 #[.int .i64 f, .int .i64 way, .slice Aw nw cw, .slice At nt ct] ∧ Blk W (w.heap.size + 1) 45 #[.int .i64 f', .int .i64 way', .slice Aw' nw' cw', .slice At' nt' ct'] ∧ W.heap.size = w.heap.size + 1 + 1 ∧ Below w.heap.size w W := by
    refine ⟨_, rfl, (Blk.new _ _ _).alloc _, ?_, by simp, ((Below.refl _ _).alloc (Nat.le_refl _) _).alloc (by simp) _⟩
    have := Blk.new (w.alloc (.cells #[.int .i64 f, .int .i64 way, .slice Aw nw cw, .slice At nt ct] 45)) 45 #[.int .i64 f', .int .i64 way', .slice Aw' nw' cw', .slice At' nt' ct']
    rwa [World.size_alloc] at this
  have S0 : TwoBox w f way Aw nw cw At nt ct f' way' Aw' nw' cw' At' nt' ct' W := ⟨hb0, by omega, bg, bo⟩
  clear bg bo hWs hb0
  go_enter Tryd.func4, Tryd.ntmps4
  go_wp2_with fail
  rw [← hW]
  clear hW
  refine (unhide cRG W S0.below).mono ?_
  rintro e w1 ⟨rfl, hb1⟩
  have S1 := S0.next hb1
  clear S0 hb1
  obtain ⟨⟨x0, x1, x2, x3⟩, y0, y1, y2, y3⟩ := S1.cells
  go_wp2_with fail
  refine (unhide cCk _ S1.below).mono ?_
  rintro e w2 ⟨rfl, hb2⟩
  have S2 := S1.next hb2
  clear S1 hb2 x0 x1 x2 x3 y0 y1 y2 y3
  go_wp2_with fail
  refine (error_any _ _ _ (he.below S2.below he.lt)).mono ?_
  rintro e w3 ⟨rfl, hb3⟩
  rw [beq_self_eq_true]
  have S3 := S2.next hb3
  clear S2 hb3
  obtain ⟨⟨x0, x1, x2, x3⟩, y0, y1, y2, y3⟩ := S3.cells
  go_wp2_with fail
  refine (unhide cSt _ S3.below).mono ?_
  rintro e w4 ⟨rfl, hb4⟩
  have S4 := S3.next hb4
  clear S3 hb4 x0 x1 x2 x3 y0 y1 y2 y3 cSt
  obtain ⟨⟨x0, x1, x2, x3⟩, y0, y1, y2, y3⟩ := S4.cells
  go_upto_if 42 with (fail)
  go_cut [10, 11] from 41 to 48 (fun s10 s11 wx => s11 = .int .i64 (gevalV G r) ∧ IOwn wx w.heap.size s10 (eachR G r) ∧ TwoBox w f way Aw nw cw At nt ct f' way' Aw' nw' cw' At' nt' ct' wx)
  case first =>
    by_cases h0 : standE G r = 0
    · have hb : (standE G r == 0) = true := by simpa using h0
      have HR : Hid (eachR G r = eachV G r) := hide (by unfold eachR; rw [if_pos h0])
      have H0 := hide h0
      rw [hb]
      clear h0 hb
      go_wp2_with fail
      refine (unhide cRE _ (unhide H0) S4.below).mono ?_
      rintro e w5 ⟨v5, rfl, ho5, hb5⟩
      have S5 := S4.next hb5
      have ho5' := IOwn.low ho5 (show w.heap.size ≤ w4.heap.size by have := S4.size; omega)
      have hc5 := hide (unhide cRT w5 v5 (unhide H0) S5.below ho5')
      clear ho5 x0 x1 x2 x3 y0 y1 y2 y3 S4 hb5
      obtain ⟨⟨x0, x1, x2, x3⟩, y0, y1, y2, y3⟩ := S5.cells
      go_wp2_with fail
      refine (unhide hc5).mono ?_
      rintro e w6 ⟨rfl, hb6⟩
      have S6 := S5.next hb6
      have ho6 := IOwn.below ho5' hb6 (Nat.le_refl _)
      clear hc5 ho5' x0 x1 x2 x3 y0 y1 y2 y3 S5 hb6
      go_wp2_with fail
      go_meet
      case rel => exact ⟨rfl, by rw [unhide HR]; exact ho6, S6⟩
    · have hb : (standE G r == 0) = false := by simpa using h0
      have HR : Hid (eachR G r = []) := hide (by unfold eachR; rw [if_neg h0])
      have HV : Hid (gevalV G r = 0) := hide (by unfold gevalV; rw [if_neg h0])
      rw [hb]
      clear h0 hb x0 x1 x2 x3 y0 y1 y2 y3
      go_wp2_with fail
      go_meet
      case rel => exact ⟨by rw [unhide HV], by rw [unhide HR]; exact IOwn.nil_ _ _, S4⟩
  case rest =>
    obtain ⟨rfl, hown10, S5⟩ := hcut
    clear S4 x0 x1 x2 x3 y0 y1 y2 y3 cRE cRT
    obtain ⟨⟨x0, x1, x2, x3⟩, y0, y1, y2, y3⟩ := S5.cells
    go_wp2_with fail
    refine (unhide cEa _ S5.below).mono ?_
    rintro e w6 ⟨v12, rfl, ho12, hb6⟩
    have S6 := S5.next hb6
    have ho10 := IOwn.below hown10 hb6 (Nat.le_refl _)
    clear S5 hb6 hown10 x0 x1 x2 x3 y0 y1 y2 y3 cEa
    go_wp2_with fail
    refine (error_any _ _ _ (he.below S6.below he.lt)).mono ?_
    rintro e w7 ⟨rfl, hb7⟩
    rw [beq_self_eq_true]
    have S7 := S6.next hb7
    have ho10' := IOwn.below ho10 hb7 (Nat.le_refl _)
    have ho12' := IOwn.below ho12 hb7 (Nat.le_refl _)
    clear S6 hb7 ho10 ho12
    obtain ⟨⟨x0, x1, x2, x3⟩, y0, y1, y2, y3⟩ := S7.cells
    go_wp2_with fail
    refine (unhide cEv _ S7.below).mono ?_
    rintro e w8 ⟨rfl, hb8⟩
    have S8 := S7.next hb8
    have ho10 := IOwn.below ho10' hb8 (Nat.le_refl _)
    have ho12 := IOwn.below ho12' hb8 (Nat.le_refl _)
    clear S7 hb8 ho10' ho12' x0 x1 x2 x3 y0 y1 y2 y3 cEv
    go_wp2_with fail
    refine (error_any _ _ _ (he.below S8.below he.lt)).mono ?_
    rintro e w9 ⟨rfl, hb9⟩
    rw [beq_self_eq_true]
    have S9 := S8.next hb9
    have ho10' := IOwn.below ho10 hb9 (Nat.le_refl _)
    have ho12' := IOwn.below ho12 hb9 (Nat.le_refl _)
    clear S8 hb9 ho10 ho12
    obtain ⟨A10, d10, rfl, r10, m10, _, _⟩ := ho10'.slice_
    obtain ⟨A12, d12, rfl, r12, _, _, _⟩ := ho12'.slice_
    go_wp2_with fail
    refine (ints_any _ _ _ _ _ _ (eachR G r) (eachR G r) _ _ _ r12 r10 m10 m10).mono ?_
    rintro e w10 ⟨rfl, q10, rfl⟩
    rw [beq_self_eq_true]
    have S10 := S9.next (below_drewN (Below.refl _ w9) q10)
    clear S9 ho10' ho12' r10 r12
    generalize w9.drewN q10 = w10 at *
    obtain ⟨⟨x0, x1, x2, x3⟩, y0, y1, y2, y3⟩ := S10.cells
    go_upto_if 71 with (fail)
    go_cut [18, 19] from 69 to 134 (fun s18 s19 wx => s18 = .int .i64 (boundsV G).1 ∧ s19 = .int .i64 (boundsV G).2 ∧ TwoBox w f way Aw nw cw At nt ct f' way' Aw' nw' cw' At' nt' ct' wx)
    case first =>
      by_cases h0 : G.e = 0
      case neg =>
        have hb : (G.e == 0) = false := by simpa using h0
        have HBV : Hid (boundsV G = (0, 0)) := hide (by unfold boundsV; rw [if_neg h0])
        rw [hb]
        clear h0 hb x0 x1 x2 x3 y0 y1 y2 y3
        go_wp2_with fail
        go_meet
        case rel => exact ⟨by rw [unhide HBV], by rw [unhide HBV], S10⟩
      have hb : (G.e == 0) = true := by simpa using h0
      have hG := groveE_right h0
      have H0 := hide h0
      have hts : G.ts = ts := by rw [unhide HGD]
      have hn12 : nt ≤ 12 := by have := hG.most; have e2 := htr.len; rw [hts] at this; omega
      have hpos : 0 < nt := by have := hG.pos; have e2 := htr.len; rw [hts] at this; omega
      have HTR : Hid (∀ t ∈ ts, Right t.l G.f) := hide (fun t ht => right_of (hG.trees t (by rw [hts]; exact ht)))
      have HNT := hide htr.len
      have HTS := hide hts
      have HBW : Hid (∀ W v6 v7, Below w.heap.size w W → IOwn W w.heap.size v6 (ts.map fun t => Lib.minOf (leafVals t.l)) → IOwn W w.heap.size v7 (ts.map fun t => Lib.maxOf (leafVals t.l)) → Calls Tryd.prog 24 #[.agg #[.int .i64 f, .int .i64 way, .slice Aw nw cw, .slice At nt ct], v6, v7] W fun e w' => e = .returned (.tuple #[.int .i64 (boundsV G).1, .int .i64 (boundsV G).2]) ∧ Below W.heap.size W w') := hide (fun W v6 v7 hb o6 o7 => unhide cRB W v6 v7 h0 hb (by rw [hts]; exact o6) (by rw [hts]; exact o7))
      rw [hb]
      clear h0 hb hG hts cRB
      go_wp2_with fail
      clear x0 x1 x2 x3 y0 y1 y2 y3
      go_loopw [20, 21, 22] (fun v6 v7 i wr => ∃ j : Nat, j ≤ nt ∧ i = .int .i64 j ∧ wr.ownsRow (w.heap.size + 1 + 1) 3 1 v6 j (((ts.map fun t => Lib.minOf (leafVals t.l)).take j).map (Value.int .i64)) ∧
          wr.ownsRow (w.heap.size + 1 + 1) 3 1 v7 j (((ts.map fun t => Lib.maxOf (leafVals t.l)).take j).map (Value.int .i64)) ∧ Apart v6 v7 ∧ TwoBox w f way Aw nw cw At nt ct f' way' Aw' nw' cw' At' nt' ct' wr) (fun _ _ i _ => nt - (Lib.intOf i).toNat)
      case atStart => exact ⟨0, Nat.zero_le _, rfl, World.ownsRow_nil _ _ _ _, World.ownsRow_nil _ _ _ _, Apart.nil_ _ _ _, S10⟩
      case round =>
        clear S10
        obtain ⟨j, hj, rfl, own6, own7, hap, SR⟩ := hrel
        obtain ⟨⟨x0, x1, x2, x3⟩, y0, y1, y2, y3⟩ := SR.cells
        clear x0 x1 x2 y0 y1 y2 y3
        by_cases hlt : j < nt
        · obtain ⟨b, o, t, rfl, _, hx, hcx, hok⟩ := (htr.below SR.below).get hlt
          have hRt := unhide HTR t (List.mem_of_getElem? hx)
          have hln := hok.reads.len
          have hmost := hRt.most
          have hlv := hide (leafVals_in hRt)
          have H6 : Hid ((ts.map fun t => Lib.minOf (leafVals t.l)).take (j + 1) = (ts.map fun t => Lib.minOf (leafVals t.l)).take j ++ [Lib.minOf (leafVals t.l)]) := hide (take_next (by rw [List.getElem?_map, hx]; rfl))
          have H7 : Hid ((ts.map fun t => Lib.maxOf (leafVals t.l)).take (j + 1) = (ts.map fun t => Lib.maxOf (leafVals t.l)).take j ++ [Lib.maxOf (leafVals t.l)]) := hide (take_next (by rw [List.getElem?_map, hx]; rfl))
          have hrr := hok.reads
          obtain ⟨tA, tn, tc, tl⟩ := t
          dsimp only at hcx hln hmost hrr H6 H7 hlv
          have HLN := hide hln
          have hm63 : tn ≤ 63 := by omega
          clear hx hok hRt hmost hln
          go_wp2_with fail
          obtain ⟨w0, hw0⟩ : ∃ w0, w0 = wr := ⟨_, rfl⟩
          subst hw0
          go_loopw [23, 24] (fun v i wr => ∃ k : Nat, k ≤ tn ∧ i = .int .i64 k ∧ IOwn wr w0.heap.size v (leafVals (tl.take k)) ∧ (leafVals (tl.take k)).length ≤ k ∧ Below w0.heap.size w0 wr) (fun _ i _ => tn - (Lib.intOf i).toNat)
          case atStart => exact ⟨0, Nat.zero_le _, rfl, IOwn.nil_ _ _, Nat.zero_le _, Below.refl _ _⟩
          case round =>
            obtain ⟨k, hk, rfl, own10, hll, hb2⟩ := hrel
            have hsz2 := hb2.size
            have hs0 := SR.size
            have xx3 := (hb2.cell (p := ⟨w.heap.size, 3, none⟩) (by show w.heap.size < _; omega)).trans x3
            have hbl := SR.below.size
            have ccx := (hb2.cell (p := ⟨b, o + j, none⟩) (by dsimp only; omega)).trans hcx
            by_cases hlk : k < tn
            · obtain ⟨b5, o5, n, rfl, _, hn, g0, g1, g2, g3, g4, g5⟩ := (hrr.below (hb2.mono (by omega))).get hlk
              have HN := hide (leafVals_next hn)
              obtain ⟨LV, hLV⟩ : ∃ LV, LV = leafVals (tl.take k) := ⟨_, rfl⟩
              rw [← hLV] at HN own10 hll
              clear hn hLV
              by_cases hf : n.f = -1
              · have HN2 : Hid (leafVals (tl.take (k + 1)) = LV ++ [n.v]) := hide (by rw [unhide HN, if_pos hf])
                obtain ⟨nf, nc, nl, nr, nless, nv⟩ := n
                dsimp only at hf g0 g1 g2 g3 g4 g5 HN2
                subst hf
                go_wp2_with (at_builtin; refine app_one elem_int (.tmp 99) (.tmp 109) [.int .i64 nv] rfl rfl rfl own10 rfl rfl rfl (ints_oneCell .i64 [nv]) (by omega) (by omega) ?_; intro v' w3 hown3 hb3 _ _)
                go_wp2_with fail
                go_roundw
                case rel => exact ⟨k + 1, by omega, by go_num, by rw [unhide HN2]; exact iown_app hown3, by rw [unhide HN2, List.length_append]; simp; omega, hb2.trans hb3⟩
                case measure => simp [Lib.intOf]; omega
              · have HN2 : Hid (leafVals (tl.take (k + 1)) = LV) := hide (by rw [unhide HN, if_neg hf, List.append_nil])
                have e1 : (n.f == -1) = false := by simp [hf]
                obtain ⟨nf, nc, nl, nr, nless, nv⟩ := n
                dsimp only at e1 g0 g1 g2 g3 g4 g5 HN2
                clear hf
                go_wp2_with fail
                go_roundw
                case rel => exact ⟨k + 1, by omega, by go_num, by rw [unhide HN2]; exact own10, by rw [unhide HN2]; omega, hb2⟩
                case measure => simp [Lib.intOf]; omega
            · obtain rfl : k = tn := by omega
              rw [List.take_of_length_le (by rw [unhide HLN]; exact Nat.le_refl _)] at own10 hll
              obtain ⟨A10, d10, rfl, r10, hm10, _, _⟩ := own10.slice_
              obtain ⟨hne, _⟩ := unhide hlv
              have hp10 : 0 < (leafVals tl).length := List.length_pos_iff.2 hne
              have hsl := sortL_len (leafVals tl)
              have HF := hide (sort_first hne)
              have HL := hide (sort_last hne)
              have hso := hide (rsorted_any A10 (leafVals tl).length d10 (leafVals tl) wr r10 (by omega))
              obtain ⟨mn, hmn⟩ : ∃ m, m = Lib.minOf (leafVals tl) := ⟨_, rfl⟩
              obtain ⟨mx, hmx⟩ : ∃ m, m = Lib.maxOf (leafVals tl) := ⟨_, rfl⟩
              obtain ⟨nl, hnl⟩ : ∃ m, m = (leafVals tl).length := ⟨_, rfl⟩
              rw [← hmn] at H6 HF
              rw [← hmx] at H7 HL
              rw [← hnl] at hp10 hsl hll HL hso
              obtain ⟨mm, rfl⟩ : ∃ mm, nl = mm + 1 := ⟨nl - 1, by omega⟩
              rw [Nat.add_sub_cancel] at HL
              have o6 := own_below own6 hb2
              have o7 := own_below own7 hb2
              have SR1 := SR.next hb2
              clear own10 r10 hne own6 own7 hrr hmn hmx hcx x3 SR
              rw [← hnl]
              have HNL := hide hnl
              clear hnl
              go_wp2_with fail
              refine (unhide hso).mono ?_
              rintro e w3 ⟨v3, rfl, ho3, hb3⟩
              clear hso xx3 ccx
              have SR2 := SR1.next hb3
              obtain ⟨A3, d3, rfl, r3, _, _, _⟩ := ho3.slice_
              rw [hsl] at r3 ⊢
              have h3 : w3.ownsRow wr.heap.size 3 1 (.slice A3 (mm + 1) d3) (mm + 1) ((sortL (leafVals tl)).map (Value.int .i64)) := by have := ho3; unfold IOwn at this; rw [hsl] at this; exact this
              have o6' := own_below o6 hb3
              have o7' := own_below o7 hb3
              have hap3 : Apart (.slice A3 (mm + 1) d3) u20 := fun q hq e => by have := own_block_ge h3 q hq; have := (o6.lt q e).2; omega
              obtain ⟨b5, o5, z5, e5, _, hz5, cz5⟩ := r3.get (k := 0) hp10
              subst e5
              rw [unhide HF] at hz5
              injection hz5 with hz5
              subst hz5
              rw [Nat.add_zero] at cz5
              have hs3 := SR2.size
              have hj9 : j < 1000000000 := by omega
              clear ho3 o6 o7 hb3 SR1
              go_upto_region 29 with (at_builtin; refine app_one2 elem_int (.tmp 113) (.tmp 117) [.int .i64 mn] rfl rfl rfl o6' rfl rfl rfl (ints_oneCell .i64 [mn]) hj9 hs3 ?_; intro v6' w4 o6'' hb4 hg4 hn4)
              obtain ⟨o7'', hap'⟩ := own_aside o7' o6' hap.symm hg4 hn4
              obtain ⟨h4, hap4⟩ := own_aside h3 o6' hap3 hg4 hn4
              have hz4 := hb4.size
              have r4 : IReads w4 w4.heap.size (some ⟨b5, o5, none⟩) (mm + 1) (sortL (leafVals tl)) := Reads.of_own h4
              obtain ⟨b6, o6x, z6, e6, _, hz6, cz6⟩ := r4.get (k := mm) (by omega)
              cases e6
              rw [unhide HL] at hz6
              injection hz6 with hz6
              subst hz6
              have hB4 : Below (w.heap.size + 1 + 1) w3 w4 := hb4
              have SR3 : TwoBox w f way Aw nw cw (some ⟨b, o, none⟩) nt ct f' way' Aw' nw' cw' At' nt' ct' w4 := ⟨SR2.below.trans (hb4.mono (by omega)), by omega, SR2.a.below hb4 (by omega), SR2.b.below hb4 (by omega)⟩
              have hs4 := SR3.size
              clear r4 cz5 h3 h4 hap3 hap4 o6' o7' hg4 hn4 hb4 hB4 SR2 r3
              have hidx : (((mm + 1 : Nat) : Int) - 1) = (mm : Int) := by omega
              go_wp2_with (at_builtin; refine app_one2 elem_int (.tmp 119) (.tmp 126) [.int .i64 mx] rfl rfl rfl o7'' rfl rfl rfl (ints_oneCell .i64 [mx]) hj9 hs4 ?_; intro v7' w5 o7x hb5 hg5 hn5)
              obtain ⟨o6x', hap2⟩ := own_aside o6'' o7'' hap'.symm hg5 hn5
              have SR4 : TwoBox w f way Aw nw cw (some ⟨b, o, none⟩) nt ct f' way' Aw' nw' cw' At' nt' ct' w5 := ⟨SR3.below.trans (hb5.mono (by omega)), by have := hb5.size; omega, SR3.a.below hb5 (by omega), SR3.b.below hb5 (by omega)⟩
              clear SR3 o6'' o7'' hap' hg5 hn5 hb5 cz6
              go_wp2_with fail
              go_roundw
              case rel => exact ⟨j + 1, by omega, by go_num, by rw [unhide H6, List.map_append]; exact o6x', by rw [unhide H7, List.map_append]; exact o7x, hap2, SR4⟩
              case measure => simp [Lib.intOf]; omega
        · obtain rfl : j = nt := by omega
          rw [List.take_of_length_le (by rw [List.length_map, unhide HNT]; exact Nat.le_refl _)] at own6 own7
          have o6 : IOwn wr w.heap.size u20 (ts.map fun t => Lib.minOf (leafVals t.l)) := by
            have := own_low own6 (show w.heap.size ≤ w.heap.size + 1 + 1 by omega)
            unfold IOwn; rw [List.length_map, unhide HNT]; exact this
          have o7 : IOwn wr w.heap.size u21 (ts.map fun t => Lib.maxOf (leafVals t.l)) := by
            have := own_low own7 (show w.heap.size ≤ w.heap.size + 1 + 1 by omega)
            unfold IOwn; rw [List.length_map, unhide HNT]; exact this
          have hcon := hide (unhide HBW wr u20 u21 SR.below o6 o7)
          clear own6 own7 o6 o7 HBW x3
          obtain ⟨⟨x0, x1, x2, x3⟩, _, _, _, _⟩ := SR.cells
          go_wp2_with fail
          refine (unhide hcon).mono ?_
          rintro e w5 ⟨rfl, hb5⟩
          have SR2 := SR.next hb5
          clear hcon SR hb5 x0 x1 x2 x3
          go_wp2_with fail
          go_meet
          case rel => exact ⟨rfl, rfl, SR2⟩
    case rest =>
      clear S10 x0 x1 x2 x3 y0 y1 y2 y3 cRB
      obtain ⟨rfl, rfl, S11⟩ := hcut
      obtain ⟨⟨x0, x1, x2, x3⟩, y0, y1, y2, y3⟩ := S11.cells
      go_wp2_with fail
      refine (unhide cBo _ S11.below).mono ?_
      rintro e w12 ⟨rfl, hb12⟩
      have S12 := S11.next hb12
      clear S11 hb12 x0 x1 x2 x3 y0 y1 y2 y3 cBo
      go_wp2_with fail
      refine (error_any _ _ _ (he.below S12.below he.lt)).mono ?_
      rintro e w13 ⟨rfl, hb13⟩
      rw [beq_self_eq_true]
      have S13 := S12.next hb13
      clear S12 hb13
      have q1 : (gevalV G r != gevalV G r) = false := by simp
      have q2 : ((boundsV G).1 != (boundsV G).1) = false := by simp
      have q3 : ((boundsV G).2 != (boundsV G).2) = false := by simp
      obtain ⟨⟨x0, x1, x2, x3⟩, y0, y1, y2, y3⟩ := S13.cells
      go_upto_if 178 with (fail)
      obtain ⟨E1, hE1⟩ : ∃ E, E = if G.e = 0 then O.e else G.e := ⟨_, rfl⟩
      have HE1 := hide hE1
      clear hE1
      go_cut [7] from 177 to 180 (fun s7 wx => s7 = .int .i64 E1 ∧ TwoBox w f way Aw nw cw At nt ct f' way' Aw' nw' cw' At' nt' ct' wx)
      case first =>
        by_cases h0 : G.e = 0
        · have hb : (G.e == 0) = true := by simpa using h0
          have H1 : Hid (E1 = O.e) := hide (by rw [unhide HE1, if_pos h0])
          rw [hb]
          clear h0 hb
          go_wp2_with fail
          refine (unhide cRO _ S13.below).mono ?_
          rintro e w14 ⟨rfl, hb14⟩
          have S14 := S13.next hb14
          clear S13 hb14 x0 x1 x2 x3 y0 y1 y2 y3
          go_wp2_with fail
          go_meet
          case rel => exact ⟨by rw [unhide H1], S14⟩
        · have hb : (G.e == 0) = false := by simpa using h0
          have H1 : Hid (E1 = G.e) := hide (by rw [unhide HE1, if_neg h0])
          rw [hb]
          clear h0 hb x0 x1 x2 x3 y0 y1 y2 y3
          go_wp2_with fail
          go_meet
          case rel => exact ⟨by rw [unhide H1], S13⟩
      case rest =>
        obtain ⟨rfl, S14⟩ := hcut
        clear S13 x0 x1 x2 x3 y0 y1 y2 y3 cRO cRG cCk q1 q2 q3
        obtain ⟨⟨x0, x1, x2, x3⟩, y0, y1, y2, y3⟩ := S14.cells
        go_upto_region 37 with (fail)
        obtain ⟨b1, hb1⟩ : ∃ b, b = (E1 == 0 && (f != f' || way != way')) := ⟨_, rfl⟩
        have HB1 := hide hb1
        clear hb1
        go_cut [196] from 181 to 196 (fun s wx => s = .bool b1 ∧ wx = wc)
        case first =>
          cases hA : (E1 == 0)
          · have HQ : Hid (b1 = false) := hide (by rw [unhide HB1, hA]; rfl)
            go_wp2_with fail
            go_meet
            case rel => exact ⟨by rw [unhide HQ], rfl⟩
          · cases hB : (f != f')
            · cases hC : (way != way')
              · have HQ : Hid (b1 = false) := hide (by rw [unhide HB1, hA, hB, hC]; rfl)
                go_wp2_with fail
                go_meet
                case rel => exact ⟨by rw [unhide HQ], rfl⟩
              · have HQ : Hid (b1 = true) := hide (by rw [unhide HB1, hA, hB, hC]; rfl)
                go_wp2_with fail
                go_meet
                case rel => exact ⟨by rw [unhide HQ], rfl⟩
            · have HQ : Hid (b1 = true) := hide (by rw [unhide HB1, hA, hB]; rfl)
              go_wp2_with fail
              go_meet
              case rel => exact ⟨by rw [unhide HQ], rfl⟩
        case rest =>
          obtain ⟨rfl, rfl⟩ := hcut
          go_upto_if 196 with (fail)
          obtain ⟨E2, hE2⟩ : ∃ E, E = if b1 = true then 3 else E1 := ⟨_, rfl⟩
          have HE2 := hide hE2
          clear hE2
          go_cut [7] from 181 to 196 (fun s7 wx => s7 = .int .i64 E2 ∧ wx = wc)
          case first =>
            cases b1
            · have HQ : Hid (E2 = E1) := hide (by rw [unhide HE2]; rfl)
              go_wp2_with fail
              go_meet
              case rel => exact ⟨by rw [unhide HQ], rfl⟩
            · have HQ : Hid (E2 = 3) := hide (by rw [unhide HE2]; rfl)
              go_wp2_with fail
              go_meet
              case rel => exact ⟨by rw [unhide HQ], rfl⟩
          case rest =>
            obtain ⟨rfl, rfl⟩ := hcut
            go_upto_region 39 with (fail)
            obtain ⟨b2, hb2⟩ : ∃ b, b = (E2 == 0 && decide ((12 : Int) < (nt : Int) + (nt' : Int))) := ⟨_, rfl⟩
            have HB2 := hide hb2
            clear hb2
            go_cut [208] from 197 to 208 (fun s wx => s = .bool b2 ∧ wx = wc)
            case first =>
              cases hA : (E2 == 0)
              · have HQ : Hid (b2 = false) := hide (by rw [unhide HB2, hA]; rfl)
                go_wp2_with fail
                go_meet
                case rel => exact ⟨by rw [unhide HQ], rfl⟩
              · have HQ : Hid (b2 = decide ((12 : Int) < (nt : Int) + (nt' : Int))) := hide (by rw [unhide HB2, hA]; rfl)
                obtain ⟨n1, n2⟩ : nt ≤ 12 ∧ nt' ≤ 12 := by
                  have h2 : E2 = 0 := by simpa using hA
                  rw [unhide HE2] at h2
                  have h1 : E1 = 0 := by
                    cases b1
                    · simpa using h2
                    · simp at h2
                  rw [unhide HE1] at h1
                  by_cases h0 : G.e = 0
                  · rw [if_pos h0] at h1
                    have q1 := (groveE_right h0).most
                    have q2 := (groveE_right h1).most
                    have q3 := (unhide HG).ts.len
                    have q4 := (unhide HO).ts.len
                    rw [unhide HGD] at q1 q3
                    rw [unhide HOD] at q2 q4
                    dsimp only at q1 q2 q3 q4
                    omega
                  · rw [if_neg h0] at h1; exact absurd h1 h0
                go_wp2_with fail
                go_meet
                case rel => exact ⟨by rw [unhide HQ], rfl⟩
            case rest =>
              obtain ⟨rfl, rfl⟩ := hcut
              go_upto_if 208 with (fail)
              have HE3 : Hid ((if b2 = true then 4 else E2) = joinE G O) := hide (by
                have e1 : G.f = f ∧ O.f = f' ∧ G.way = way ∧ O.way = way' ∧ G.ts.length = nt ∧ O.ts.length = nt' := by
                  have h1 := (unhide HG).ts.len
                  have h2 := (unhide HO).ts.len
                  rw [unhide HGD, unhide HOD] at *
                  exact ⟨rfl, rfl, rfl, rfl, h1, h2⟩
                obtain ⟨e1, e2, e3, e4, e5, e6⟩ := e1
                unfold joinE
                rw [e1, e2, e3, e4, e5, e6, unhide HB2, unhide HE2, unhide HB1, unhide HE1]
                by_cases h0 : G.e = 0
                · rw [if_pos h0, if_pos h0]
                  by_cases h1 : O.e = 0
                  · rw [if_pos h1, h1]
                    by_cases h2 : f = f'
                    · rw [if_pos h2]
                      by_cases h3 : way = way'
                      · rw [if_pos h3]
                        by_cases h4 : 12 < nt + nt'
                        · have : (12 : Int) < (nt : Int) + (nt' : Int) := by omega
                          simp [h2, h3, h4, this]
                        · have : ¬ (12 : Int) < (nt : Int) + (nt' : Int) := by omega
                          simp [h2, h3, h4, this]
                      · simp [h2, h3]
                    · simp [h2]
                  · simp [h1]
                · simp [h0])
              obtain ⟨E3, hE3⟩ : ∃ E, E = joinE G O := ⟨_, rfl⟩
              rw [← hE3] at HE3
              have HEJ := hide hE3
              clear hE3
              go_cut [7] from 197 to 208 (fun s7 wx => s7 = .int .i64 E3 ∧ wx = wc)
              case first =>
                cases b2
                · have HQ : Hid (E3 = E2) := hide (by rw [← unhide HE3]; rfl)
                  go_wp2_with fail
                  go_meet
                  case rel => exact ⟨by rw [unhide HQ], rfl⟩
                · have HQ : Hid (E3 = 4) := hide (by rw [← unhide HE3]; rfl)
                  go_wp2_with fail
                  go_meet
                  case rel => exact ⟨by rw [unhide HQ], rfl⟩
              case rest =>
                obtain ⟨rfl, rfl⟩ := hcut
                clear HB1 HB2 HE1 HE2 HE3
                go_upto_if 210 with (fail)
                obtain ⟨WZ, hWZ⟩ : ∃ WZ, WZ = wc.alloc (.cells #[.int .i64 0, .int .i64 0, .slice none 0 0, .slice none 0 0] 45) := ⟨_, rfl⟩
                rw [← hWZ]
                have bz : Blk WZ wc.heap.size 45 #[.int .i64 0, .int .i64 0, .slice none 0 0, .slice none 0 0] := by rw [hWZ]; exact Blk.new _ _ _
                have hbz : Below wc.heap.size wc WZ := by rw [hWZ]; exact (Below.refl _ _).alloc (Nat.le_refl _) _
                have hsz : WZ.heap.size = wc.heap.size + 1 := by rw [hWZ]; simp
                clear hWZ x0 x1 x2 x3 y0 y1 y2 y3
                go_cut [] from 209 to 240 (fun wx => ∃ gb : Gv, Blk wx wc.heap.size 45 #[.int .i64 gb.f, .int .i64 gb.way, .slice gb.Aw gb.nw gb.cw, .slice gb.At gb.nt gb.ct] ∧ GReads wx wx.heap.size gb ∧ JoinIs G O gb ∧ Below wc.heap.size wc wx ∧ wc.heap.size + 1 ≤ wx.heap.size)
                case first =>
                  by_cases h0 : E3 = 0
                  case neg =>
                    have hb : (E3 == 0) = false := by simpa using h0
                    have HJI : Hid (JoinIs G O gZero) := hide (by unfold JoinIs; rw [if_neg (by rw [← unhide HEJ]; exact h0)]; exact ⟨rfl, rfl, rfl, rfl⟩)
                    rw [hb]
                    clear h0 hb
                    go_wp2_with fail
                    go_meet
                    case rel => exact ⟨gZero, bz, gZero_reads _ _, unhide HJI, hbz, by omega⟩
                  have hb : (E3 == 0) = true := by simpa using h0
                  have hj0 : joinE G O = 0 := by rw [← unhide HEJ]; exact h0
                  have hge : G.e = 0 := by
                    by_cases e : G.e = 0
                    · exact e
                    · unfold joinE at hj0; rw [if_neg e] at hj0; exact absurd hj0 e
                  have hoe : O.e = 0 := by
                    by_cases e : O.e = 0
                    · exact e
                    · unfold joinE at hj0; rw [if_pos hge, if_neg e] at hj0; exact absurd hj0 e
                  have hGG := groveE_right hge
                  have hOO := groveE_right hoe
                  have gw1 := (unhide HG).ws
                  have gt1 := (unhide HG).ts
                  have gw2 := (unhide HO).ws
                  have gt2 := (unhide HO).ts
                  have n1 := hGG.most
                  have n2 := hOO.most
                  have n3 := hGG.wlen
                  have n4 := hOO.wlen
                  rw [unhide HGD] at gw1 gt1 n1 n3
                  rw [unhide HOD] at gw2 gt2 n2 n4
                  dsimp only at gw1 gt1 gw2 gt2 n1 n2 n3 n4
                  have l1 := gw1.len
                  have l2 := gt1.len
                  have l3 := gw2.len
                  have l4 := gt2.len
                  have hn1 : nt ≤ 12 ∧ nw ≤ 12 := by omega
                  have hn2 : nt' ≤ 12 ∧ nw' ≤ 12 := by omega
                  have HJI : Hid (∀ gb : Gv, gb.f = f → gb.way = way → gb.ws = ws ++ ws' → gb.trees = ts.map Tr.l ++ ts'.map Tr.l → JoinIs G O gb) := hide (fun gb q1 q2 q3 q4 => by
                    unfold JoinIs
                    rw [if_pos hj0, unhide HGD, unhide HOD]
                    exact ⟨q1, q2, q3, q4⟩)
                  rw [hb]
                  clear h0 hb hj0 hge hoe hGG hOO n1 n2 n3 n4 l1 l2 l3 l4
                  have SZ := S14.next hbz
                  obtain ⟨⟨x0, x1, x2, x3⟩, y0, y1, y2, y3⟩ := SZ.cells
                  obtain ⟨z0, z1, z2, z3⟩ := bz.cells4
                  have fz0 := bz.frozen 0
                  have fz1 := bz.frozen 1
                  have hw2 := S14.size
                  go_upto_region 45 with (fail)
                  have bz1 := (bz.set_ 0 (.int .i64 f)).set_ 1 (.int .i64 way)
                  simp at bz1
                  have hX1 : Below wc.heap.size wc ((WZ.setCell ⟨wc.heap.size, 0, none⟩ (.int .i64 f)).setCell ⟨wc.heap.size, 1, none⟩ (.int .i64 way)) := (hbz.setCell (p := ⟨wc.heap.size, 0, none⟩) (Nat.le_refl _) _).setCell (p := ⟨wc.heap.size, 1, none⟩) (Nat.le_refl _) _
                  have sX1 : ((WZ.setCell ⟨wc.heap.size, 0, none⟩ (.int .i64 f)).setCell ⟨wc.heap.size, 1, none⟩ (.int .i64 way)).heap.size = wc.heap.size + 1 := by simp [World.setCell]; simpa using hsz
                  clear SZ x0 x1 x2 x3 y0 y1 y2 y3 z0 z1 z2 z3 fz0 fz1 bz hbz hsz
                  generalize (WZ.setCell ⟨wc.heap.size, 0, none⟩ (.int .i64 f)).setCell ⟨wc.heap.size, 1, none⟩ (.int .i64 way) = X1 at *
                  have SX1 := S14.next hX1
                  obtain ⟨⟨x0, x1, x2, x3⟩, y0, y1, y2, y3⟩ := SX1.cells
                  obtain ⟨z0, z1, z2, z3⟩ := bz1.cells4
                  have on0 : X1.ownsRow (wc.heap.size + 1) 3 1 (.slice none 0 0) 0 [] := World.ownsRow_nil _ _ _ _
                  have rd1 := gw1.below SX1.below
                  have ad1 : 0 + nw < 1000000000 := by omega
                  have sb1 : wc.heap.size + 1 ≤ X1.heap.size := by omega
                  go_upto_region 46 with (at_builtin; refine app_many elem_int (.tmp 218) (.tmp 220) rfl rfl rfl on0 rfl rd1 (ints_one ws) ad1 sb1 ?_; intro v1 w5 o1 hb5 _; rw [Nat.zero_add, List.nil_append] at o1; obtain ⟨A1, d1, hv1, _, _, _⟩ := own_slice o1; subst hv1; have bz5 := bz1.below hb5 (Nat.lt_succ_self _); obtain ⟨u0, u1, u2, u3⟩ := bz5.cells4; have fu2 := bz5.frozen 2)
                  have hw5 := hX1.trans (hb5.mono (Nat.le_succ _))
                  have sz5 := hb5.size
                  have bz2 := bz5.set_ 2 (.slice A1 nw d1)
                  simp at bz2
                  have hX2 := hw5.setCell (p := ⟨wc.heap.size, 2, none⟩) (Nat.le_refl _) (.slice A1 nw d1)
                  have sX2 : (w5.setCell ⟨wc.heap.size, 2, none⟩ (.slice A1 nw d1)).heap.size = w5.heap.size := by simp [World.setCell]
                  have o1' := own_far o1 (p := ⟨wc.heap.size, 2, none⟩) (fun q hq => by have := (o1.lt q hq).1; show q ≠ wc.heap.size; omega) (.slice A1 nw d1)
                  clear SX1 x0 x1 x2 x3 y0 y1 y2 y3 z0 z1 z2 z3 u0 u1 u2 u3 fu2 bz1 bz5 hX1 hw5 hb5 o1 on0 rd1
                  generalize w5.setCell ⟨wc.heap.size, 2, none⟩ (.slice A1 nw d1) = X2 at *
                  have SX2 := S14.next hX2
                  obtain ⟨⟨x0, x1, x2, x3⟩, y0, y1, y2, y3⟩ := SX2.cells
                  obtain ⟨z0, z1, z2, z3⟩ := bz2.cells4
                  have rd2 := gw2.below SX2.below
                  have ad2 : nw + nw' < 1000000000 := by omega
                  have sb2 : wc.heap.size + 1 ≤ X2.heap.size := by omega
                  go_upto_region 47 with (at_builtin; refine app_many elem_int (.tmp 224) (.tmp 226) rfl rfl rfl o1' rfl rd2 (ints_one ws') ad2 sb2 ?_; intro v1 w6 o2 hb6 _; obtain ⟨A2, d2, hv2, _, _, _⟩ := own_slice o2; subst hv2; have bz6 := bz2.below hb6 (Nat.lt_succ_self _); obtain ⟨u0, u1, u2, u3⟩ := bz6.cells4; have fu2 := bz6.frozen 2)
                  have hw6 := hX2.trans (hb6.mono (Nat.le_succ _))
                  have sz6 := hb6.size
                  have bz3 := bz6.set_ 2 (.slice A2 (nw + nw') d2)
                  simp at bz3
                  have hX3 := hw6.setCell (p := ⟨wc.heap.size, 2, none⟩) (Nat.le_refl _) (.slice A2 (nw + nw') d2)
                  have sX3 : (w6.setCell ⟨wc.heap.size, 2, none⟩ (.slice A2 (nw + nw') d2)).heap.size = w6.heap.size := by simp [World.setCell]
                  have o2' := own_far o2 (p := ⟨wc.heap.size, 2, none⟩) (fun q hq => by have := (o2.lt q hq).1; show q ≠ wc.heap.size; omega) (.slice A2 (nw + nw') d2)
                  clear SX2 x0 x1 x2 x3 y0 y1 y2 y3 z0 z1 z2 z3 u0 u1 u2 u3 fu2 bz2 bz6 hX2 hw6 hb6 o2 o1' rd2
                  generalize w6.setCell ⟨wc.heap.size, 2, none⟩ (.slice A2 (nw + nw') d2) = X3 at *
                  have SX3 := S14.next hX3
                  obtain ⟨⟨x0, x1, x2, x3⟩, y0, y1, y2, y3⟩ := SX3.cells
                  obtain ⟨z0, z1, z2, z3⟩ := bz3.cells4
                  have on3 : X3.ownsRow (wc.heap.size + 1) 22 1 (.slice none 0 0) 0 [] := World.ownsRow_nil _ _ _ _
                  have rd3 := (gt1.below SX3.below).1
                  have ad3 : 0 + nt < 1000000000 := by omega
                  have sb3 : wc.heap.size + 1 ≤ X3.heap.size := by omega
                  go_upto_region 48 with (at_builtin; refine app_many elem_trees (.tmp 230) (.tmp 232) rfl rfl rfl on3 rfl rd3 (trees_one ts) ad3 sb3 ?_; intro v3 w7 o3 hb7 hg7; rw [Nat.zero_add, List.nil_append] at o3; obtain ⟨A3, d3, hv3, _, _, _⟩ := own_slice o3; subst hv3; have bz7 := bz3.below hb7 (Nat.lt_succ_self _); obtain ⟨u0, u1, u2, u3⟩ := bz7.cells4; have fu3 := bz7.frozen 3)
                  have hw7 := hX3.trans (hb7.mono (Nat.le_succ _))
                  have sz7 := hb7.size
                  have o27 := own_kept0 o2' on3 (by decide) hg7
                  have bz4 := bz7.set_ 3 (.slice A3 nt d3)
                  simp at bz4
                  have hX4 := hw7.setCell (p := ⟨wc.heap.size, 3, none⟩) (Nat.le_refl _) (.slice A3 nt d3)
                  have sX4 : (w7.setCell ⟨wc.heap.size, 3, none⟩ (.slice A3 nt d3)).heap.size = w7.heap.size := by simp [World.setCell]
                  have o2'' := own_far o27 (p := ⟨wc.heap.size, 3, none⟩) (fun q hq => by have := (o27.lt q hq).1; show q ≠ wc.heap.size; omega) (.slice A3 nt d3)
                  have o3' := own_far o3 (p := ⟨wc.heap.size, 3, none⟩) (fun q hq => by have := (o3.lt q hq).1; show q ≠ wc.heap.size; omega) (.slice A3 nt d3)
                  clear SX3 x0 x1 x2 x3 y0 y1 y2 y3 z0 z1 z2 z3 u0 u1 u2 u3 fu3 bz3 bz7 hX3 hw7 hb7 hg7 o3 o2' o27 on3 rd3
                  generalize w7.setCell ⟨wc.heap.size, 3, none⟩ (.slice A3 nt d3) = X4 at *
                  have SX4 := S14.next hX4
                  obtain ⟨⟨x0, x1, x2, x3⟩, y0, y1, y2, y3⟩ := SX4.cells
                  obtain ⟨z0, z1, z2, z3⟩ := bz4.cells4
                  have rd4 := (gt2.below SX4.below).1
                  have ad4 : nt + nt' < 1000000000 := by omega
                  have sb4 : wc.heap.size + 1 ≤ X4.heap.size := by omega
                  go_wp2_with (at_builtin; refine app_many elem_trees (.tmp 236) (.tmp 238) rfl rfl rfl o3' rfl rd4 (trees_one ts') ad4 sb4 ?_; intro v4 w8 o4 hb8 hg8; obtain ⟨A4, d4, hv4, _, _, _⟩ := own_slice o4; subst hv4; have bz8 := bz4.below hb8 (Nat.lt_succ_self _); obtain ⟨u0, u1, u2, u3⟩ := bz8.cells4; have fu3 := bz8.frozen 3)
                  have hw8 := hX4.trans (hb8.mono (Nat.le_succ _))
                  have sz8 := hb8.size
                  have o28 := own_kept0 o2'' o3' (by decide) hg8
                  have bz9 := bz8.set_ 3 (.slice A4 (nt + nt') d4)
                  simp at bz9
                  have hX5 := hw8.setCell (p := ⟨wc.heap.size, 3, none⟩) (Nat.le_refl _) (.slice A4 (nt + nt') d4)
                  have sX5 : (w8.setCell ⟨wc.heap.size, 3, none⟩ (.slice A4 (nt + nt') d4)).heap.size = w8.heap.size := by simp [World.setCell]
                  have o2z := own_far o28 (p := ⟨wc.heap.size, 3, none⟩) (fun q hq => by have := (o28.lt q hq).1; show q ≠ wc.heap.size; omega) (.slice A4 (nt + nt') d4)
                  have o4z := own_far o4 (p := ⟨wc.heap.size, 3, none⟩) (fun q hq => by have := (o4.lt q hq).1; show q ≠ wc.heap.size; omega) (.slice A4 (nt + nt') d4)
                  clear SX4 x0 x1 x2 x3 y0 y1 y2 y3 z0 z1 z2 z3 u0 u1 u2 u3 fu3 bz4 bz8 hX4 hw8 hb8 hg8 o3' o2'' o28 o4 rd4
                  generalize w8.setCell ⟨wc.heap.size, 3, none⟩ (.slice A4 (nt + nt') d4) = X5 at *
                  have SX5 := S14.next hX5
                  have hGR : Hid (GReads X5 X5.heap.size ⟨f, way, A2, nw + nw', d2, ws ++ ws', A4, nt + nt', d4, ts ++ ts'⟩) := hide (by
                    refine ⟨?_, ⟨?_, fun r hr => ?_⟩, own_len o2z, own_len o4z, fun e => ?_, fun e => ?_⟩
                    · have := Reads.of_own o2z; rw [← List.map_append] at this; exact this
                    · have := Reads.of_own o4z; rw [← List.map_append] at this; exact this
                    · rcases List.mem_append.1 hr with hr | hr
                      · exact ((gt1.below SX5.below).2 r hr).more SX5.below.size
                      · exact ((gt2.below SX5.below).2 r hr).more SX5.below.size
                    · dsimp only at e; rw [e] at o2z; exact (own_nil o2z).1
                    · dsimp only at e; rw [e] at o4z; exact (own_nil o4z).1)
                  go_wp2_with fail
                  go_meet
                  case rel => exact ⟨⟨f, way, A2, nw + nw', d2, ws ++ ws', A4, nt + nt', d4, ts ++ ts'⟩, bz9, unhide hGR, unhide HJI _ rfl rfl rfl (List.map_append ..), hX5, by omega⟩
                case rest =>
                  obtain ⟨gb, bz, hgb, hjb, hbX, hsX⟩ := hcut
                  have SX := S14.next hbX
                  clear S14 hbz hsz
                  obtain ⟨p, hp⟩ : ∃ p, p = wc.heap.size := ⟨_, rfl⟩
                  obtain ⟨⟨x0, x1, x2, x3⟩, y0, y1, y2, y3⟩ := SX.cells
                  obtain ⟨z0, z1, z2, z3⟩ := bz.cells4
                  have blt := bz.lt
                  have hcj := unhide cJo wc SX.below
                  unfold JoinPost at hcj
                  rw [← unhide HEJ] at hcj
                  have HCJ := hide hcj
                  clear hcj cJo
                  go_wp2_with fail
                  refine (unhide HCJ).mono ?_
                  rintro e w6 ⟨g6, rfl, hg6, hj6, hb6⟩
                  have S6 := SX.next hb6
                  have zz6 := hb6.size
                  have bz6 := bz.below hb6 blt
                  have hgb6 := hgb.below hb6
                  have hW7 : Below w6.heap.size w6 (w6.alloc (.cells g6.cells 45)) := (Below.refl _ _).alloc (Nat.le_refl _) _
                  have S7 := S6.next hW7
                  have bz7 := bz6.alloc (.cells g6.cells 45)
                  have bj7 : Blk (w6.alloc (.cells g6.cells 45)) w6.heap.size 45 g6.cells := Blk.new _ _ _
                  have hs7 : (w6.alloc (.cells g6.cells 45)).heap.size = w6.heap.size + 1 := by simp
                  have hg7 := hg6.below hW7
                  have hsame : g6.f = gb.f ∧ g6.way = gb.way ∧ g6.ws = gb.ws ∧ g6.trees = gb.trees := by
                    unfold JoinIs at hj6 hjb
                    by_cases h : joinE G O = 0
                    · rw [if_pos h] at hj6 hjb
                      obtain ⟨q1, q2, q3, q4⟩ := hj6
                      obtain ⟨p1, p2, p3, p4⟩ := hjb
                      exact ⟨q1.trans p1.symm, q2.trans p2.symm, q3.trans p3.symm, q4.trans p4.symm⟩
                    · rw [if_neg h] at hj6 hjb
                      obtain ⟨q1, q2, q3, q4⟩ := hj6
                      obtain ⟨p1, p2, p3, p4⟩ := hjb
                      exact ⟨q1.trans p1.symm, q2.trans p2.symm, q3.trans p3.symm, by unfold Gv.trees; rw [q4, p4]⟩
                  have hgb7 : Hid (∀ W, Below (w6.alloc (.cells g6.cells 45)).heap.size (w6.alloc (.cells g6.cells 45)) W → Calls Tryd.prog 27 #[g6.val, gb.val] W fun e w' => e = .returned (.bool true) ∧ Below W.heap.size W w') := hide (fun W hB => by
                    obtain ⟨h1, h2, h3, h4⟩ := hsame
                    have z6 := hb6.size
                    refine sameGrove_any g6 gb W ((hg7.below (hB.mono (by omega))).more (by have := hB.size; omega)) (((hgb6.below (hW7.mono z6)).below (hB.mono (by omega))).more (by have := hB.size; omega)) h1 h2 h3 h4)
                  clear HCJ x0 x1 x2 x3 y0 y1 y2 y3 z0 z1 z2 z3 bz bz6 SX S6 hsame hg6 hg7 hgb hgb6 hj6 hjb hW7 hb6
                  have her := hide (error_any E3 E3 _ (he.below S7.below he.lt))
                  obtain ⟨f4, way4, Aw4, nw4, cw4, ws4, At4, nt4, ct4, ts4⟩ := g6
                  obtain ⟨f5, way5, Aw5, nw5, cw5, ws5, At5, nt5, ct5, ts5⟩ := gb
                  simp only [Gv.val, Gv.cells] at hgb7 bj7 bz7 S7 hs7 her ⊢
                  go_wp2_with fail
                  refine (unhide her).mono ?_
                  rintro e w8 ⟨rfl, hb8⟩
                  rw [beq_self_eq_true]
                  have S8 := S7.next hb8
                  have bz8 := bz7.below hb8 (by omega)
                  have bj8 := bj7.below hb8 (by omega)
                  have hcs := hide (unhide hgb7 w8 hb8)
                  clear her hgb7 bz7 bj7 S7
                  obtain ⟨z0, z1, z2, z3⟩ := bz8.cells4
                  obtain ⟨y0, y1, y2, y3⟩ := bj8.cells4
                  go_wp2_with fail
                  refine (unhide hcs).mono ?_
                  rintro e w9 ⟨rfl, hb9⟩
                  clear hcs
                  go_wp2_with fail
                  go_ret
                  exact ⟨rfl, (S8.next hb9).below⟩
end Go.Proofs.YtliacpdbeghmlaaDoor
