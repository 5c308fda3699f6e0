/- LimitHolds: the walk. Conditions: arguments read as data. -/
import Derived.Test.YtefkjpcgcgofgaaLimitLaw
namespace Go.Proofs.Ytefkjpcgcgofgaa
set_option linter.unusedVariables false
set_option linter.unusedSimpArgs false
open Go.RowKit

theorem lim_fact : limitE [⟨0, 5, 1, 2, false, 0⟩, ⟨-1, 0, 0, 0, false, 7⟩, ⟨-1, 0, 0, 0, false, 9⟩] [⟨5, 6, false⟩] = 0 ∧ (limV [⟨0, 5, 1, 2, false, 0⟩, ⟨-1, 0, 0, 0, false, 7⟩, ⟨-1, 0, 0, 0, false, 9⟩] [⟨5, 6, false⟩]).low = 9 ∧ (limV [⟨0, 5, 1, 2, false, 0⟩, ⟨-1, 0, 0, 0, false, 7⟩, ⟨-1, 0, 0, 0, false, 9⟩] [⟨5, 6, false⟩]).high = 9 := ⟨by decide, by kernel_rfl, by kernel_rfl⟩

structure LimFacts (t : List Nd) (l : List Sp) (row : List Int) (low high : Int) (least most : List Int) : Prop where
  n1 : least.length ≤ 8
  n2 : most.length ≤ 8
  r1 : readyE t least = 0
  r2 : readyE t most = 0
  v1 : evalV t least = low
  v2 : evalV t most = high
  f1 : fitsE least l = 0
  f2 : fitsE most l = 0
  b1 : fitsB least l = true
  b2 : fitsB most l = true
  rr : fitsE row l = 0 → fitsB row l = true → readyE t row = 0 ∧ low ≤ evalV t row ∧ evalV t row ≤ high ∧ inSp row l
theorem limFacts {t : List Nd} {l : List Sp} (row : List Int) (h : limitE t l = 0) : LimFacts t l row (limV t l).low (limV t l).high (limV t l).least (limV t l).most := by
  obtain ⟨hs, hR⟩ := limitE_0 h
  obtain ⟨h8, ha, hc⟩ := spansE_all hs
  obtain ⟨p1, p2, p3, p4, p5⟩ := holds_of hR rfl hs
  have hV : limV t l = endsV t l := by unfold limV; rw [if_pos h]
  rw [hV]
  have rdy : ∀ x, inSp x l → readyE t x = 0 := fun x hx => by
    unfold readyE
    rw [if_pos (in_row h8 hc hx), hx.1]
    have ht0 : treeE t l.length = 0 := by unfold limitE at h; rwa [if_pos hs] at h
    exact ht0
  have ev : ∀ x, inSp x l → evalV t x = valAt t (leafOf t x) := fun x hx => by unfold evalV; rw [if_pos (rdy x hx)]
  have fe : ∀ x, inSp x l → fitsE x l = 0 ∧ fitsB x l = true := fun x hx => ⟨(fits_in2 (in_row h8 hc hx)).1.2 hx.1, (fits_in2 (in_row h8 hc hx)).2.2 hx⟩
  refine ⟨by rw [p1.1]; exact h8, by rw [p3.1]; exact h8, rdy _ p1, rdy _ p3, by rw [ev _ p1, p2], by rw [ev _ p3, p4], (fe _ p1).1, (fe _ p3).1, (fe _ p1).2, (fe _ p3).2, fun f0 fb => ?_⟩
  have hrow : rowE row = 0 := by
    unfold fitsE at f0
    by_cases h0 : rowE row = 0
    · exact h0
    · rw [if_neg h0] at f0; exact absurd f0 h0
  have hin := (fits_in2 hrow).2.1 fb
  refine ⟨rdy _ hin, ?_, ?_, hin⟩
  · rw [ev _ hin]; exact (p5 _ hin).1
  · rw [ev _ hin]; exact (p5 _ hin).2

set_option maxRecDepth 100000 in
set_option maxHeartbeats 8000000 in
theorem limitHolds_walk (A C D : Option Addr) (m d n c k q : Nat) (t : List Nd) (g : Gv) (l : List Sp) (row : List Int) (w : World) (ht : NReads w w.heap.size A m t) (hg : GReads w w.heap.size g) (hl : SReads w w.heap.size C n l) (hr : IReads w w.heap.size D k row) (hm : m ≤ maxLen) (hn : n ≤ maxLen) (hk : k ≤ maxLen) (hC : C = none → c = 0) :
    Calls Try.prog 6 #[.slice A m d, g.val, .slice C n c, .slice D k q] w fun e w' => e = .returned (.bool true) ∧ Below w.heap.size w w' := by
  obtain ⟨Z, hZ⟩ : ∃ Z, Z = Obj.cells #[.int .i64 0, .int .i64 5, .int .i64 1, .int .i64 2, .bool false, .int .i64 0, .int .i64 (-1), .int .i64 0, .int .i64 0, .int .i64 0, .bool false, .int .i64 7, .int .i64 (-1), .int .i64 0, .int .i64 0, .int .i64 0, .bool false, .int .i64 9] 30 := ⟨_, rfl⟩
  obtain ⟨Y, hY⟩ : ∃ Y, Y = Obj.cells #[.int .i64 5, .int .i64 6, .bool false] 58 := ⟨_, rfl⟩
  obtain ⟨W1, hW1, bx, hWs, hb0⟩ := gbox w g.f g.way g.Aw g.nw g.cw g.At g.nt g.ct
  have hT0 : NReads (W1.alloc Z) (w.heap.size + 1 + 1) (some ⟨w.heap.size + 1, 0, none⟩) 3 [⟨0, 5, 1, 2, false, 0⟩, ⟨-1, 0, 0, 0, false, 7⟩, ⟨-1, 0, 0, 0, false, 9⟩] := by
    have h := Reads.new_ W1 6 3 (([⟨0, 5, 1, 2, false, 0⟩, ⟨-1, 0, 0, 0, false, 7⟩, ⟨-1, 0, 0, 0, false, 9⟩] : List Nd).flatMap Nd.cells) 30 rfl
    rw [hWs] at h
    rw [hZ]; exact h
  have hs1 : (W1.alloc Z).heap.size = w.heap.size + 1 + 1 := by rw [World.size_alloc, hWs]
  have hT1 : NReads ((W1.alloc Z).alloc Y) (w.heap.size + 1 + 1 + 1) (some ⟨w.heap.size + 1, 0, none⟩) 3 [⟨0, 5, 1, 2, false, 0⟩, ⟨-1, 0, 0, 0, false, 7⟩, ⟨-1, 0, 0, 0, false, 9⟩] := (Reads.alloc hT0 (by omega) _).more (by omega)
  have hS1 : SReads ((W1.alloc Z).alloc Y) (w.heap.size + 1 + 1 + 1) (some ⟨w.heap.size + 1 + 1, 0, none⟩) 1 [⟨5, 6, false⟩] := by
    have h := Reads.new_ (W1.alloc Z) 3 1 (([⟨5, 6, false⟩] : List Sp).flatMap Sp.cells) 58 rfl
    rw [hs1] at h
    rw [hY]; exact h
  have hs2 : ((W1.alloc Z).alloc Y).heap.size = w.heap.size + 1 + 1 + 1 := by rw [World.size_alloc, hs1]
  have hB0 : Below w.heap.size w ((W1.alloc Z).alloc Y) := (hb0.alloc (by omega) _).alloc (by omega) _
  have bg0 := (bx.alloc Z).alloc Y
  have HF := hide (limTree_any (some ⟨w.heap.size + 1, 0, none⟩) (some ⟨w.heap.size + 1 + 1, 0, none⟩) 3 3 1 1 _ _ _ (by rw [hs2]; exact hT1) (by rw [hs2]; exact hS1) (by decide) (by decide) (by intro h; cases h))
  have HZ := hide hZ
  have HY := hide hY
  have HW1 := hide hW1
  have HGG := hide (fun (W : World) (hB : Below w.heap.size w W) => limGrove_any g C n c l W ((hg.below hB).more hB.size) ((hl.below hB).more hB.size) hn hC)
  have HGE := hide (fun (W : World) (hB : Below w.heap.size w W) => geval_any g D k q row W ((hg.below hB).more hB.size) ((hr.below hB).more hB.size) hk)
  have HGH : Hid (limGE g l = 0 → inSp row l → standE g row = 0 ∧ (limGV g l).1 ≤ gevalV g row ∧ gevalV g row ≤ (limGV g l).2) := hide (fun h1 h2 => grove_holds h1 h2)
  generalize limGE g l = GE at *
  generalize limGV g l = GV at *
  generalize standE g row = SE at *
  generalize gevalV g row = GX at *
  clear hZ hY hW1 hT0 hT1 hS1 hb0 bx hg
  obtain ⟨f, way, Aw, nw, cw, ws, At, nt, ct, ts⟩ := g
  simp only [Gv.val] at HGG HGE ⊢
  dsimp only at HW1 bg0
  go_enter Try.func6, Try.ntmps6
  go_wp2_with fail
  rw [← unhide HZ, ← unhide HY, ← unhide HW1]
  generalize (W1.alloc Z).alloc Y = W0 at *
  refine (unhide HF).mono ?_
  rintro e w1 ⟨rfl, hb1⟩
  rw [lim_fact.1, lim_fact.2.1, lim_fact.2.2, errV_0 rfl]
  have bg1 := bg0.below hb1 (by omega)
  have hB1 := hB0.trans (hb1.mono hB0.size)
  have hz1 := hB1.size
  have hz1' : w.heap.size + 1 ≤ w1.heap.size := by have := hb1.size; omega
  clear HF HZ HY HW1 hb1 hB0 bg0 hs1 hs2 hWs
  go_wp2_with fail
  refine (limTree_any A C m d n c t l w1 ((ht.below hB1).more hz1) ((hl.below hB1).more hz1) hm hn hC).mono ?_
  rintro e w2 ⟨rfl, hb2⟩
  have bg2 := bg1.below hb2 (by omega)
  have hB2 := hB1.trans (hb2.mono hz1)
  have hz2 := hB2.size
  have hz2' : w.heap.size + 1 ≤ w2.heap.size := by have := hb2.size; omega
  clear bg1 hb2 hB1 hz1 hz1'
  by_cases h0 : limitE t l = 0
  · have HL := hide (limFacts row h0)
    have HLE := hide h0
    rw [h0, errV_0 rfl]
    have hrows := hide (fun (W : World) (hB : Below w.heap.size w W) => limRows_any A C m d n c t l W ((ht.below hB).more hB.size) ((hl.below hB).more hB.size) hm hn hC)
    unfold LRowsPost at hrows
    rw [h0] at hrows
    clear h0
    generalize limV t l = V at *
    obtain ⟨lo, hi, ls, ms, so⟩ := V
    dsimp only at HL hrows ⊢
    go_wp2_with fail
    refine (unhide hrows _ hB2).mono ?_
    rintro e w3 ⟨A1, n1, c1, A2, n2, c2, rfl, hi1, hi2, _, _, _, _, hb3⟩
    rw [errV_0 rfl]
    have hn1 : n1 ≤ maxLen := by have := hi1.len; have := (unhide HL).n1; unfold maxLen; omega
    have hn2 : n2 ≤ maxLen := by have := hi2.len; have := (unhide HL).n2; unfold maxLen; omega
    have bg3 := bg2.below hb3 (by omega)
    have hB3 := hB2.trans (hb3.mono hz2)
    have hz3 := hB3.size
    have hz3' : w.heap.size + 1 ≤ w3.heap.size := by have := hb3.size; omega
    clear bg2 hb3 hB2 hz2 hz2' hrows
    go_wp2_with fail
    refine (eval_any A A1 m d n1 c1 t ls w3 ((ht.below hB3).more hz3) hi1 hm hn1).mono ?_
    rintro e w4 ⟨rfl, hb4⟩
    rw [(unhide HL).r1, (unhide HL).v1, errV_0 rfl]
    have j1 := (hi1.below hb4).more hb4.size
    have j2 := (hi2.below hb4).more hb4.size
    have bg4 := bg3.below hb4 (by omega)
    have hB4 := hB3.trans (hb4.mono hz3)
    have hz4 := hB4.size
    have hz4' : w.heap.size + 1 ≤ w4.heap.size := by have := hb4.size; omega
    clear bg3 hb4 hB3 hz3 hz3' hi1 hi2
    go_wp2_with fail
    refine (eval_any A A2 m d n2 c2 t ms w4 ((ht.below hB4).more hz4) j2 hm hn2).mono ?_
    rintro e w5 ⟨rfl, hb5⟩
    rw [(unhide HL).r2, (unhide HL).v2, errV_0 rfl]
    have i1 := (j1.below hb5).more hb5.size
    have i2 := (j2.below hb5).more hb5.size
    have bg5 := bg4.below hb5 (by omega)
    have hB5 := hB4.trans (hb5.mono hz4)
    have hz5 := hB5.size
    have hz5' : w.heap.size + 1 ≤ w5.heap.size := by have := hb5.size; omega
    clear bg4 hb5 hB4 hz4 hz4' j1 j2
    go_wp2_with fail
    refine (fits_any A1 C n1 c1 n c ls l w5 i1 ((hl.below hB5).more hz5) hn1 hn).mono ?_
    rintro e w6 ⟨rfl, hb6⟩
    rw [(unhide HL).f1, (unhide HL).b1, errV_0 rfl]
    have j2 := (i2.below hb6).more hb6.size
    have bg6 := bg5.below hb6 (by omega)
    have hB6 := hB5.trans (hb6.mono hz5)
    have hz6 := hB6.size
    have hz6' : w.heap.size + 1 ≤ w6.heap.size := by have := hb6.size; omega
    clear bg5 hb6 hB5 hz5 hz5' i1 i2
    go_wp2_with fail
    refine (fits_any A2 C n2 c2 n c ms l w6 j2 ((hl.below hB6).more hz6) hn2 hn).mono ?_
    rintro e w7 ⟨rfl, hb7⟩
    rw [(unhide HL).f2, (unhide HL).b2, errV_0 rfl]
    have bg7 := bg6.below hb7 (by omega)
    have hB7 := hB6.trans (hb7.mono hz6)
    have hz7 := hB7.size
    have hz7' : w.heap.size + 1 ≤ w7.heap.size := by have := hb7.size; omega
    clear bg6 hb7 hB6 hz6 hz6' j2
    go_wp2_with fail
    refine (fits_any D C k q n c row l w7 ((hr.below hB7).more hz7) ((hl.below hB7).more hz7) hk hn).mono ?_
    rintro e w8 ⟨rfl, hb8⟩
    have bg8 := bg7.below hb8 (by omega)
    have hB8 := hB7.trans (hb8.mono hz7)
    have hz8 := hB8.size
    have hz8' : w.heap.size + 1 ≤ w8.heap.size := by have := hb8.size; omega
    clear bg7 hb8 hB7 hz7 hz7'
    by_cases hf : fitsE row l = 0
    · by_cases hfb : fitsB row l = true
      · obtain ⟨r1, r2, r3, r4⟩ := (unhide HL).rr hf hfb
        have HR4 := hide r4
        have HR1 := hide r1
        rw [hf, hfb, errV_0 rfl]
        have d1 : decide (evalV t row < lo) = false := by simpa using r2
        have d2 : decide (hi < evalV t row) = false := by simpa using r3
        have hev := hide (eval_any A D m d k q t row w8 ((ht.below hB8).more hz8) ((hr.below hB8).more hz8) hm hk)
        clear hf hfb r4 r1 r2 r3
        generalize evalV t row = X at *
        go_wp2_with fail
        refine (unhide hev).mono ?_
        rintro e w9 ⟨rfl, hb9⟩
        rw [unhide HR1, errV_0 rfl]
        have bg9 := bg8.below hb9 (by omega)
        have hB9 := hB8.trans (hb9.mono hz8)
        have hz9' : w.heap.size + 1 ≤ w9.heap.size := by have := hb9.size; omega
        have x0 := bg9.cell 0
        have x1 := bg9.cell 1
        have x2 := bg9.cell 2
        have x3 := bg9.cell 3
        simp at x0 x1 x2 x3
        have hgg := hide (unhide HGG w9 hB9)
        clear bg8 hb9 hB8 hz8 hz8' hev HGG
        go_wp2_with fail
        refine (unhide hgg).mono ?_
        rintro e w10 ⟨rfl, hb10⟩
        have bg10 := bg9.below hb10 (by omega)
        have hB10 := hB9.trans (hb10.mono hB9.size)
        clear bg9 hb10 hB9 hgg x0 x1 x2 x3
        by_cases hE : GE = 0
        · obtain ⟨s1, s2, s3⟩ := unhide HGH hE (unhide HR4)
          rw [hE, errV_0 rfl]
          have HS1 := hide s1
          have d3 : decide (GV.1 ≤ GX) = true := by simpa using s2
          have d4 : decide (GX ≤ GV.2) = true := by simpa using s3
          have x0 := bg10.cell 0
          have x1 := bg10.cell 1
          have x2 := bg10.cell 2
          have x3 := bg10.cell 3
          simp at x0 x1 x2 x3
          have hge := hide (unhide HGE w10 hB10)
          clear hE s1 s2 s3 bg10 HGE HGH
          obtain ⟨g1, g2⟩ := GV
          dsimp only at d3 d4 ⊢
          go_wp2_with fail
          refine (unhide hge).mono ?_
          rintro e w11 ⟨rfl, hb11⟩
          rw [unhide HS1, errV_0 rfl]
          clear hge x0 x1 x2 x3
          go_wp2_with fail
          go_ret
          exact ⟨rfl, hB10.trans (hb11.mono hB10.size)⟩
        · rw [errV_1 hE]
          clear hE HGH HGE
          go_wp2_with fail
          go_ret
          exact ⟨rfl, hB10⟩
      · have hfb' : fitsB row l = false := by simpa using hfb
        rw [hf, hfb', errV_0 rfl]
        clear hf hfb hfb'
        go_wp2_with fail
        go_ret
        exact ⟨rfl, hB8⟩
    · rw [errV_1 hf]
      clear hf
      go_wp2_with fail
      go_ret
      exact ⟨rfl, hB8⟩
  · rw [errV_1 h0]
    clear h0
    go_wp2_with fail
    go_ret
    exact ⟨rfl, hB2⟩
end Go.Proofs.Ytefkjpcgcgofgaa
