/- GrowShifts: the walk. Conditions: samples that read as data. -/
import Derived.Test.YtopncifebldklaaGrowF
import Derived.Test.YtopncifebldklaaGrowT
import Derived.Test.YtopncifebldklaaSameNd
namespace Go.Proofs.Ytopncifebldklaa
set_option linter.unusedVariables false
set_option linter.unusedSimpArgs false
open Go.RowKit

theorem two_reads (w : World) : ∃ W, W = ((w.alloc (.cells #[.int .i64 1] 3)).alloc (.cells #[.int .i64 2] 3)).alloc (.cells #[.slice (some ⟨w.heap.size, 0, none⟩) 1 1, .int .i64 5, .slice (some ⟨w.heap.size + 1, 0, none⟩) 1 1, .int .i64 9] 46) ∧
    MReads W W.heap.size (some ⟨w.heap.size + 2, 0, none⟩) 2 [⟨some ⟨w.heap.size, 0, none⟩, 1, 1, [1], 5⟩, ⟨some ⟨w.heap.size + 1, 0, none⟩, 1, 1, [2], 9⟩] ∧ Below w.heap.size w W := by
  refine ⟨_, rfl, ⟨?_, ?_⟩, (((Below.refl _ _).alloc (Nat.le_refl _) _).alloc (by simp) _).alloc (by simp; omega) _⟩
  · have := Reads.new_ ((w.alloc (.cells #[.int .i64 1] 3)).alloc (.cells #[.int .i64 2] 3)) 2 2 [.slice (some ⟨w.heap.size, 0, none⟩) 1 1, .int .i64 5, .slice (some ⟨w.heap.size + 1, 0, none⟩) 1 1, .int .i64 9] 46 rfl
    simp only [World.size_alloc] at this ⊢
    exact this
  · intro s hs
    have r1 := Reads.new_ w 1 1 [.int .i64 1] 3 rfl
    have r2 := Reads.new_ (w.alloc (.cells #[.int .i64 1] 3)) 1 1 [.int .i64 2] 3 rfl
    simp only [World.size_alloc] at r2 ⊢
    simp only [List.mem_cons, List.not_mem_nil, or_false] at hs
    rcases hs with rfl | rfl
    · exact ⟨((r1.alloc (by simp) _).alloc (by simp) _).more (by omega), by show (1 : Nat) ≤ maxLen; decide⟩
    · exact ⟨(r2.alloc (by simp) _).more (by omega), by show (1 : Nat) ≤ maxLen; decide⟩

theorem below_grownA {w x : World} {B : Nat} {w' : World} {row : Option Nat} (h : Below B w x) (hg : x.drew.grownBy w' row) (hB : B ≤ x.heap.size) (hr : ∀ k, row = some k → B ≤ k) : Below B w w' :=
  h.grown (w' := w') ⟨hg.os, hg.tape, hg.output, hg.size, hg.block⟩ hB hr
set_option maxRecDepth 100000 in
set_option maxHeartbeats 4000000 in
theorem growShifts_walk (A : Option Addr) (m c : Nat) (fe depth least by_ : Int) (ss : List Sm) (w : World) (h : MReads w w.heap.size A m ss) (hm : m ≤ maxLen) :
    Calls Try.prog 4 #[.slice A m c, .int .i64 fe, .int .i64 depth, .int .i64 least, .int .i64 by_] w fun e w' => e = .returned (.bool true) ∧ Below w.heap.size w w' := by
  obtain ⟨W0, hW0, hr0, hB0⟩ := two_reads w
  have HF := hide (fit_grow _ 2 2 1 1 1 _ W0 hr0 (by decide))
  unfold NodesPost at HF
  rw [(two_fit _ _ 1 1).1, (two_fit _ _ 1 1).2, errV_0 rfl] at HF
  have HL := hide h.len
  go_enter Try.func4, Try.ntmps4
  go_wp2_with fail
  rw [← hW0]
  clear hW0 hr0
  refine (unhide HF).mono ?_
  rintro e w1 ⟨v1, rfl, ho1, hb1⟩
  obtain ⟨A1, c1, rfl, hr1, _⟩ := ho1.slice
  obtain ⟨b, o, x, rfl, _, hx, _, _, _, _, _, q5⟩ := hr1.get (k := 1) (by simp)
  simp at hx
  subst hx
  have q5' : w1.cell? ⟨b, o + 6 + 5, none⟩ = some (.int .i64 5) := by simpa using q5
  have e1 : ([⟨0, 2, 1, 2, false, 0⟩, ⟨-1, 0, 0, 0, false, 5⟩, ⟨-1, 0, 0, 0, false, 9⟩] : List Nd).length = 3 := rfl
  rw [e1]
  have hB1 := hB0.trans (hb1.mono hB0.size)
  clear HF q5 e1 ho1 hr1 hb1 hB0
  go_wp2_with fail
  have hc := hide (fit_grow A m c fe depth least ss w1 ((h.below hB1).more hB1.size) hm)
  unfold NodesPost at hc
  by_cases h0 : fitE ss fe depth least = 0
  case neg =>
    have hv := errV_1 h0
    clear h0
    refine (unhide hc).mono ?_
    rintro e w2 ⟨v2, rfl, ho2, hb2⟩
    rw [hv]
    clear hc hv ho2 q5'
    go_wp2_with fail
    go_ret
    exact ⟨rfl, hB1.trans (hb2.mono hB1.size)⟩
  have hv := errV_0 h0
  have HV2 : Hid (∀ y ∈ fitT ss fe depth least, -1000 ≤ y.v ∧ y.v ≤ 1000) := hide (fit_v h0)
  have HLN := hide (fit_len h0)
  obtain ⟨n, hn, hsr, _, _⟩ := fit_parts h0
  have HSR := hide hsr
  have hm60 : m ≤ 60 := by have := hsr.most; have := unhide HL; omega
  have HE0 := hide h0
  clear hn hsr h0
  refine (unhide hc).mono ?_
  rintro e w2 ⟨v2, rfl, ho2, hb2⟩
  rw [hv]
  have hB2 := hB1.trans (hb2.mono hB1.size)
  obtain ⟨T, hT⟩ : ∃ T, T = fitT ss fe depth least := ⟨_, rfl⟩
  rw [← hT] at ho2 HV2 HLN
  have HT := hide hT
  obtain ⟨A2, c2, rfl, hr2, _⟩ := ho2.slice
  obtain ⟨nT, hnT⟩ : ∃ n, n = T.length := ⟨_, rfl⟩
  rw [← hnT] at hr2 HLN ⊢
  have HNT := hide hnT
  have hnT6 := unhide HLN
  clear hc hv ho2 q5' hT hb2 hnT HLN
  by_cases g1 : by_ < -2000
  · have d1 : decide (by_ < -2000) = true := decide_eq_true g1
    clear g1
    go_wp2_with fail
    go_ret
    exact ⟨rfl, hB2⟩
  have d1 : decide (by_ < -2000) = false := decide_eq_false g1
  by_cases g2 : 2000 < by_
  · have d2 : decide (2000 < by_) = true := decide_eq_true g2
    clear g1 g2
    go_wp2_with fail
    go_ret
    exact ⟨rfl, hB2⟩
  have d2 : decide (2000 < by_) = false := decide_eq_false g2
  have g1' : -2000 ≤ by_ := by omega
  have g2' : by_ ≤ 2000 := by omega
  clear g1 g2
  have HCh := hide (fun (W : World) (A' : Option Addr) (c' : Nat) (h' : MReads W W.heap.size A' m (ss.map (shS by_))) => gCheck_any A' m c' fe (ss.map (shS by_)) W h' hm)
  have HFt := hide (fun (W : World) (A' : Option Addr) (c' : Nat) (h' : MReads W W.heap.size A' m (ss.map (shS by_))) => fit_grow A' m c' fe depth least (ss.map (shS by_)) W h' hm)
  unfold MCheckPost at HCh
  unfold NodesPost at HFt
  go_wp2_with fail
  clear d1 d2
  go_loopw [16, 17] (fun v i wr => ∃ k : Nat, k ≤ m ∧ i = .int .i64 k ∧ Hid (MOwn wr w2.heap.size v ((ss.take k).map (shS by_))) ∧ Below w2.heap.size w2 wr) (fun _ i _ => m - (intOf i).toNat)
  case atStart => exact ⟨0, Nat.zero_le _, rfl, hide (MOwn.nil_ _ _), Below.refl _ _⟩
  case round =>
    obtain ⟨k, hk, rfl, HO, hbel⟩ := hrel
    have hsz := hbel.size
    by_cases hlt : k < m
    · obtain ⟨b, o, s, rfl, _, hx, c0, c1, hok⟩ := (h.below (hB2.trans (hbel.mono hB2.size))).get hlt
      have HN := hide (shS_next (b := by_) hx)
      have t1 := (unhide HSR).tlo s (List.mem_of_getElem? hx)
      have t2 := (unhide HSR).thi s (List.mem_of_getElem? hx)
      obtain ⟨sA, sn, sc, sr, st⟩ := s
      dsimp only at c0 c1 HN t1 t2
      have hwr : IntKind.i64.wrap (st + by_) = st + by_ := IntWalk.i64_in _ (by omega)
      obtain ⟨L, hL⟩ : ∃ L, L = (ss.take k).map (shS by_) := ⟨_, rfl⟩
      have hLl : L.length = k := by rw [hL, List.length_map, List.length_take, unhide HL]; omega
      rw [← hL] at HN HO
      have hoa0 : wr.ownsRow w2.heap.size 46 2 _ L.length (L.flatMap Sm.cells) := unhide HO
      rw [hLl] at hoa0
      obtain ⟨A5, c5, hv5, _, _, _⟩ := own_slice hoa0
      subst hv5
      have hbA := hbel.alloc hsz (.cells #[.slice sA sn sc, .int .i64 (st + by_)] 46)
      have hnew := hide (Reads.new_ wr 2 1 [.slice sA sn sc, .int .i64 (st + by_)] 46 rfl)
      have hoa := hide (hoa0.alloc (.cells #[.slice sA sn sc, .int .i64 (st + by_)] 46))
      have hBw : w2.heap.size ≤ (wr.alloc (.cells #[.slice sA sn sc, .int .i64 (st + by_)] 46)).heap.size := by rw [World.size_alloc]; omega
      have HC1 := hide (smp_one sA sn sc (st + by_))
      obtain ⟨i0, hi0, hz0, hs0, hby0⟩ := info_parts (elem_smp).info
      have hk1 : k + 1 ≤ maxLen := by unfold maxLen; omega
      have hk2 : (k + 1) * 32 ≤ 140737488355328 := by omega
      have HK1 := hide hk1
      clear hx hok hL HO
      go_wp2_with fail
      go_region_law (refine step_append_any _ rfl (.tmp 72) (.tmp 86) 27 rfl w2.heap.size 46 i0 _ 2 32 (elem_smp).und hi0 hz0 hs0 hby0 (elem_smp).zs (elem_smp).pos (.slice A5 k c5) k _ rfl (unhide hoa) _ _ 1 1 _ rfl (unhide hnew) (unhide HC1) hk1 hk2 hBw ?_
                     intro v12 w12 o12 g12 _)
      all_goals
        go_wp2_with fail
        go_roundw
        case rel => exact ⟨k + 1, by omega, by go_num, hide (by rw [unhide HN]; refine MOwn.app (s := shS by_ ⟨sA, sn, sc, sr, st⟩) ?_; rw [hLl]; exact o12), below_grownA hbA g12 hBw (own_block_ge hoa0)⟩
        case measure => simp [intOf] <;> omega
    · obtain rfl : k = m := by omega
      rw [List.take_of_length_le (by rw [unhide HL]; exact Nat.le_refl _)] at HO
      have hMl : (ss.map (shS by_)).length = k := by rw [List.length_map, unhide HL]
      obtain ⟨A3, c3, rfl, hr3, _⟩ := (unhide HO).slice
      rw [hMl] at hr3 ⊢
      have hM3 : MReads wr wr.heap.size A3 k (ss.map (shS by_)) := ⟨hr3, fun s hs => by
        obtain ⟨s0, hs0, rfl⟩ := List.mem_map.1 hs
        exact ⟨(((h.2 s0 hs0).below (hB2.trans (hbel.mono hB2.size))).more (Nat.le_trans hB2.size hsz)).reads, (h.2 s0 hs0).len⟩⟩
      have HSH := hide (fun e2 => fitT_sh (b := by_) (unhide HE0) e2)
      have HSE := hide (fun e2 => fitE_samp (m := ss.map (shS by_)) (unhide HE0) e2)
      have hB3 := hB2.trans (hbel.mono hB2.size)
      have hc := hide (unhide HFt wr A3 c3 hM3)
      rw [← unhide HT] at HSH
      clear HO hr3 HFt
      obtain ⟨M2, hM2⟩ : ∃ M, M = ss.map (shS by_) := ⟨_, rfl⟩
      rw [← hM2] at hc hM3 HCh HSH HSE hMl
      clear hM2
      by_cases e2 : fitE M2 fe depth least = 0
      · have hTT := unhide HSH e2
        have hv := errV_0 e2
        clear HSH HSE e2
        go_wp2_with fail
        refine (unhide hc).mono ?_
        rintro e w4 ⟨v4, rfl, ho4, hb4⟩
        rw [hv]
        rw [hTT] at ho4
        obtain ⟨A4, c4, rfl, hr4, _⟩ := ho4.slice
        have hl4 : (T.map (shN by_)).length = nT := by rw [List.length_map, unhide HNT]
        rw [hl4] at hr4 ⊢
        have hB4 := hB3.trans (hb4.mono hB3.size)
        have hbel4 := hbel.trans (hb4.mono hsz)
        have hr24 := (hr2.below hbel4).more hbel4.size
        have d1 : ((nT : Int) != (nT : Int)) = false := by simp
        clear hc hv hTT ho4 hl4 hb4 hB3 hbel hr2 hM3 hMl HCh
        go_wp2_with fail
        go_loopw [22] (fun i wr => ∃ j : Nat, j ≤ nT ∧ i = .int .i64 j ∧ Below w4.heap.size w4 wr) (fun i _ => nT - (intOf i).toNat)
        case atStart => exact ⟨0, Nat.zero_le _, rfl, Below.refl _ _⟩
        case round =>
          obtain ⟨j, hj, rfl, hbel5⟩ := hrel
          have hz5 := hbel5.size
          by_cases hlj : j < nT
          · obtain ⟨b, o, x, rfl, _, hx, a0, a1, a2, a3, a4, a5⟩ := (hr24.below hbel5).get hlj
            obtain ⟨b', o', y, rfl, hby, hy, b0, b1, b2, b3, b4, b5⟩ := (hr4.below hbel5).get hlj
            rw [List.getElem?_map, hx] at hy
            injection hy with hy
            subst hy
            have hxv := unhide HV2 x (List.mem_of_getElem? hx)
            obtain ⟨f, cc, l, r, less, v⟩ := x
            dsimp only at a0 a1 a2 a3 a4 a5 hxv
            by_cases hf : f = -1
            · subst hf
              simp only [shN, if_true] at b0 b1 b2 b3 b4 b5
              have hneq := same_node (-1) cc l r less (v + by_)
              have hbA := hbel5.alloc hbel5.size (.cells #[.int .i64 (-1), .int .i64 cc, .int .i64 l, .int .i64 r, .bool less, .int .i64 (v + by_)] 29)
              have hnb := Blk.new wr 29 #[.int .i64 (-1), .int .i64 cc, .int .i64 l, .int .i64 r, .bool less, .int .i64 (v + by_)]
              have z0 := hnb.cell 0
              have z1 := hnb.cell 1
              have z2 := hnb.cell 2
              have z3 := hnb.cell 3
              have z4 := hnb.cell 4
              have z5 := hnb.cell 5
              simp at z0 z1 z2 z3 z4 z5
              have y0 := cell_alloc b0 (o := .cells #[.int .i64 (-1), .int .i64 cc, .int .i64 l, .int .i64 r, .bool less, .int .i64 (v + by_)] 29) (by show b' < _; omega)
              have y1 := cell_alloc b1 (o := .cells #[.int .i64 (-1), .int .i64 cc, .int .i64 l, .int .i64 r, .bool less, .int .i64 (v + by_)] 29) (by show b' < _; omega)
              have y2 := cell_alloc b2 (o := .cells #[.int .i64 (-1), .int .i64 cc, .int .i64 l, .int .i64 r, .bool less, .int .i64 (v + by_)] 29) (by show b' < _; omega)
              have y3 := cell_alloc b3 (o := .cells #[.int .i64 (-1), .int .i64 cc, .int .i64 l, .int .i64 r, .bool less, .int .i64 (v + by_)] 29) (by show b' < _; omega)
              have y4 := cell_alloc b4 (o := .cells #[.int .i64 (-1), .int .i64 cc, .int .i64 l, .int .i64 r, .bool less, .int .i64 (v + by_)] 29) (by show b' < _; omega)
              have y5 := cell_alloc b5 (o := .cells #[.int .i64 (-1), .int .i64 cc, .int .i64 l, .int .i64 r, .bool less, .int .i64 (v + by_)] 29) (by show b' < _; omega)
              clear hx
              go_wp2_with fail
              go_quiet (fail)
              go_wp2_with fail
              go_roundw
              case rel => exact ⟨j + 1, by omega, by go_num, below_drewN hbA _⟩
              case measure => simp [intOf] <;> omega
            · have hf1 : (f == -1) = false := by simpa using hf
              simp only [shN, if_neg hf] at b0 b1 b2 b3 b4 b5
              have hneq := same_node f cc l r less v
              have hbA := hbel5.alloc hbel5.size (.cells #[.int .i64 f, .int .i64 cc, .int .i64 l, .int .i64 r, .bool less, .int .i64 v] 29)
              have hnb := Blk.new wr 29 #[.int .i64 f, .int .i64 cc, .int .i64 l, .int .i64 r, .bool less, .int .i64 v]
              have z0 := hnb.cell 0
              have z1 := hnb.cell 1
              have z2 := hnb.cell 2
              have z3 := hnb.cell 3
              have z4 := hnb.cell 4
              have z5 := hnb.cell 5
              simp at z0 z1 z2 z3 z4 z5
              have y0 := cell_alloc b0 (o := .cells #[.int .i64 f, .int .i64 cc, .int .i64 l, .int .i64 r, .bool less, .int .i64 v] 29) (by show b' < _; omega)
              have y1 := cell_alloc b1 (o := .cells #[.int .i64 f, .int .i64 cc, .int .i64 l, .int .i64 r, .bool less, .int .i64 v] 29) (by show b' < _; omega)
              have y2 := cell_alloc b2 (o := .cells #[.int .i64 f, .int .i64 cc, .int .i64 l, .int .i64 r, .bool less, .int .i64 v] 29) (by show b' < _; omega)
              have y3 := cell_alloc b3 (o := .cells #[.int .i64 f, .int .i64 cc, .int .i64 l, .int .i64 r, .bool less, .int .i64 v] 29) (by show b' < _; omega)
              have y4 := cell_alloc b4 (o := .cells #[.int .i64 f, .int .i64 cc, .int .i64 l, .int .i64 r, .bool less, .int .i64 v] 29) (by show b' < _; omega)
              have y5 := cell_alloc b5 (o := .cells #[.int .i64 f, .int .i64 cc, .int .i64 l, .int .i64 r, .bool less, .int .i64 v] 29) (by show b' < _; omega)
              clear hx hf
              go_wp2_with fail
              go_quiet (fail)
              go_wp2_with fail
              go_roundw
              case rel => exact ⟨j + 1, by omega, by go_num, below_drewN hbA _⟩
              case measure => simp [intOf] <;> omega
          · go_wp2_with fail
            go_ret
            exact ⟨rfl, hB4.trans (hbel5.mono hB4.size)⟩
      · have hsE := unhide HSE e2
        have hv := errV_1 e2
        have hv2 := errV_1 hsE
        have hck := hide (fun (W : World) (hb : Below wr.heap.size wr W) => unhide HCh W A3 c3 ((hM3.below hb).more hb.size))
        obtain ⟨k0, hk0⟩ : ∃ k0, k0 = (((sampC M2 fe).1 : Nat) : Int) := ⟨_, rfl⟩
        rw [← hk0] at hck
        clear HSH HSE e2 hsE hk0
        go_wp2_with fail
        refine (unhide hc).mono ?_
        rintro e w4 ⟨v4, rfl, ho4, hb4⟩
        rw [hv]
        have HV2' := hide hv2
        clear hc hv ho4 hv2
        go_wp2_with fail
        refine (unhide hck w4 hb4).mono ?_
        rintro e w5 ⟨rfl, hb5⟩
        rw [unhide HV2']
        go_wp2_with fail
        go_ret
        exact ⟨rfl, hB3.trans ((hb4.trans (hb5.mono hb4.size)).mono hB3.size)⟩
end Go.Proofs.Ytopncifebldklaa
