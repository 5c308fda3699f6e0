/- grove.Bounds: contract. Conditions: an argument that reads as a grove. -/
import Derived.Test.YtliacpdbeghmlaaDoorGroveOps2
import Derived.Test.YtliacpdbeghmlaaDoorApp
namespace Go.Proofs.YtliacpdbeghmlaaDoor
set_option linter.unusedVariables false
set_option linter.unusedSimpArgs false
open Go.RowKit

def leafVals (t : List Nd) : List Int := (t.filter fun n => n.f == -1).map (·.v)
theorem leafVals_next {t : List Nd} {k : Nat} {n : Nd} (h : t[k]? = some n) : leafVals (t.take (k + 1)) = leafVals (t.take k) ++ (if n.f = -1 then [n.v] else []) := by
  unfold leafVals
  rw [take_next h, List.filter_append, List.map_append]
  congr 1
  by_cases hf : n.f = -1 <;> simp [hf]
theorem leafVals_in {t : List Nd} {fe : Int} (h : Right t fe) : leafVals t ≠ [] ∧ ∀ x ∈ leafVals t, -1000000 ≤ x ∧ x ≤ 1000000 := by
  constructor
  · obtain ⟨n, hn, hf, _⟩ := leaf_in (r := []) h
    intro e
    have : n.v ∈ leafVals t := List.mem_map.2 ⟨n, List.mem_filter.2 ⟨List.mem_of_getElem? hn, by simpa using hf⟩, rfl⟩
    rw [e] at this; cases this
  · intro x hx
    obtain ⟨n, hn, rfl⟩ := List.mem_map.1 hx
    obtain ⟨hn, hf⟩ := List.mem_filter.1 hn
    obtain ⟨i, hi⟩ := List.mem_iff_getElem?.1 hn
    have hf : n.f = -1 := by simpa using hf
    rcases node_of (h.node i n hi) with h1 | h1
    · exact ⟨h1.2.1, h1.2.2.1⟩
    · omega
theorem iown_app {w' : World} {base : Nat} {v' : Value} {l : List Int} {x : Int} (h : w'.ownsRow base 3 1 v' (l.length + 1) (l.map (Value.int .i64) ++ [.int .i64 x])) : IOwn w' base v' (l ++ [x]) := by
  unfold IOwn
  rw [List.length_append, List.map_append]
  exact h
noncomputable def boundsV (g : Gv) : Int × Int := if g.e = 0 then betwV g.way g.ws (g.ts.map fun t => Lib.minOf (leafVals t.l)) (g.ts.map fun t => Lib.maxOf (leafVals t.l)) else (0, 0)

set_option maxRecDepth 100000 in
set_option maxHeartbeats 2000000 in
theorem bounds_any (g : Gv) (w : World) (hg : GReads w w.heap.size g) :
    Calls Tryd.prog 25 #[g.val] w fun e w' => e = .returned (.tuple #[.int .i64 (boundsV g).1, .int .i64 (boundsV g).2, errV g.e]) ∧ Below w.heap.size w w' := by
  obtain ⟨W, hW, bx, hWs, hb0⟩ := gbox w g.f g.way g.Aw g.nw g.cw g.At g.nt g.ct
  have hck := hide (gcheck_any g W ((hg.below hb0).more (by omega)))
  have c0 := bx.cell 0
  have c1 := bx.cell 1
  have c2 := bx.cell 2
  have c3 := bx.cell 3
  simp at c0 c1 c2 c3
  by_cases h0 : g.e = 0
  · have hv := errV_0 h0
    have HV := hide hv
    have hG := groveE_right h0
    have HBV : Hid (boundsV g = betwV g.way g.ws (g.ts.map fun t => Lib.minOf (leafVals t.l)) (g.ts.map fun t => Lib.maxOf (leafVals t.l))) := hide (by unfold boundsV; rw [if_pos h0])
    have hnt : g.ts.length = g.nt := hg.ts.len
    have hnw : g.ws.length = g.nw := hg.ws.len
    have hn12 : g.nt ≤ 12 := by have := hG.most; omega
    have hww : g.nw = g.nt := by have := hG.wlen; omega
    have hpos : 0 < g.nt := by have := hG.pos; omega
    have HTR : Hid (∀ t ∈ g.ts, Right t.l g.f) := hide (fun t ht => right_of (hG.trees t ht))
    have hbw := hide (fun (v6 v7 : Value) (w1 : World) (o6 : IOwn w1 w.heap.size v6 (g.ts.map fun t => Lib.minOf (leafVals t.l))) (o7 : IOwn w1 w.heap.size v7 (g.ts.map fun t => Lib.maxOf (leafVals t.l))) (hb : Below w.heap.size w w1) => show Calls Tryd.prog 41 #[g.val, v6, v7] w1 fun e w' => e = .returned (.tuple #[.int .i64 (boundsV g).1, .int .i64 (boundsV g).2]) ∧ Below w1.heap.size w1 w' from by
      obtain ⟨A6, d6, rfl, r6, _, _, _⟩ := o6.slice_
      obtain ⟨A7, d7, rfl, r7, _, _, _⟩ := o7.slice_
      rw [unhide HBV]
      refine between_any g A6 A7 _ d6 _ d7 _ _ w1 ((hg.ws.below hb).more hb.size) r6 r7 (by simp; omega) (by simp; omega) (by omega) (by omega) hG.weights ?_ ?_
      · intro x hx
        obtain ⟨t, ht, rfl⟩ := List.mem_map.1 hx
        obtain ⟨h1, h2⟩ := leafVals_in (right_of (hG.trees t ht))
        exact h2 _ (minOf_spec h1).1
      · intro x hx
        obtain ⟨t, ht, rfl⟩ := List.mem_map.1 hx
        obtain ⟨h1, h2⟩ := leafVals_in (right_of (hG.trees t ht))
        exact h2 _ (maxOf_spec h1).1)
    have htr := hg.ts
    have HNT := hide hnt
    obtain ⟨B1, hB1⟩ : ∃ B, B = (boundsV g).1 := ⟨_, rfl⟩
    obtain ⟨B2, hB2⟩ : ∃ B, B = (boundsV g).2 := ⟨_, rfl⟩
    rw [← hB1, ← hB2] at hbw ⊢
    clear hG hnt hnw hww HBV hB1 hB2 h0 hg
    obtain ⟨f, way, Aw, nw, cw, ws, At, nt, ct, ts⟩ := g
    simp only [Gv.val] at hck hbw ⊢
    dsimp only at hW bx c0 c1 c2 c3 htr hn12 hpos HTR HNT hbw
    go_enter Tryd.func25, Tryd.ntmps25
    go_wp2_with fail
    rw [← hW]
    clear hW
    refine (unhide hck).mono ?_
    rintro e w1 ⟨rfl, hb1⟩
    rw [hv]
    clear hv hck
    have z1 := hb1.size
    have d0 : w1.cell? ⟨w.heap.size, 0, none⟩ = some (.int .i64 f) := (hb1.cell (p := ⟨w.heap.size, 0, none⟩) (by show w.heap.size < _; omega)).trans c0
    have d1 : w1.cell? ⟨w.heap.size, 1, none⟩ = some (.int .i64 way) := (hb1.cell (p := ⟨w.heap.size, 1, none⟩) (by show w.heap.size < _; omega)).trans c1
    have d2 : w1.cell? ⟨w.heap.size, 2, none⟩ = some (.slice Aw nw cw) := (hb1.cell (p := ⟨w.heap.size, 2, none⟩) (by show w.heap.size < _; omega)).trans c2
    have d3 : w1.cell? ⟨w.heap.size, 3, none⟩ = some (.slice At nt ct) := (hb1.cell (p := ⟨w.heap.size, 3, none⟩) (by show w.heap.size < _; omega)).trans c3
    have hB1 := hb0.trans (hb1.mono (by omega))
    have hs1 : w.heap.size + 1 ≤ w1.heap.size := by omega
    clear c0 c1 c2 c3 bx hb1 hb0 z1 hWs
    have bx1 : Hid (w1.cell? ⟨w.heap.size, 0, none⟩ = some (.int .i64 f) ∧ w1.cell? ⟨w.heap.size, 1, none⟩ = some (.int .i64 way) ∧ w1.cell? ⟨w.heap.size, 2, none⟩ = some (.slice Aw nw cw) ∧ w1.cell? ⟨w.heap.size, 3, none⟩ = some (.slice At nt ct)) := hide ⟨d0, d1, d2, d3⟩
    go_wp2_with fail
    clear d0 d1 d2 d3
    go_loopw [6, 7, 21] (fun v6 v7 i wr => ∃ j : Nat, j ≤ nt ∧ i = .int .i64 j ∧ wr.ownsRow (w.heap.size + 1) 3 1 v6 j (((ts.map fun t => Lib.minOf (leafVals t.l)).take j).map (Value.int .i64)) ∧
        wr.ownsRow (w.heap.size + 1) 3 1 v7 j (((ts.map fun t => Lib.maxOf (leafVals t.l)).take j).map (Value.int .i64)) ∧ Apart v6 v7 ∧ Below (w.heap.size + 1) w1 wr) (fun _ _ i _ => nt - (Lib.intOf i).toNat)
    case atStart => exact ⟨0, Nat.zero_le _, rfl, World.ownsRow_nil _ _ _ _, World.ownsRow_nil _ _ _ _, Apart.nil_ _ _ _, Below.refl _ _⟩
    case round =>
      obtain ⟨j, hj, rfl, own6, own7, hap, hbel⟩ := hrel
      have hsz := hbel.size
      have hbw' := hB1.trans (hbel.mono (by omega))
      by_cases hlt : j < nt
      · obtain ⟨b, o, t, rfl, _, hx, hcx, hok⟩ := (htr.below hbw').get hlt
        have hRt := unhide HTR t (List.mem_of_getElem? hx)
        have hln := hok.reads.len
        have hmost := hRt.most
        have hlv := hide (leafVals_in hRt)
        have H6 : Hid ((ts.map fun t => Lib.minOf (leafVals t.l)).take (j + 1) = (ts.map fun t => Lib.minOf (leafVals t.l)).take j ++ [Lib.minOf (leafVals t.l)]) := hide (take_next (by rw [List.getElem?_map, hx]; rfl))
        have H7 : Hid ((ts.map fun t => Lib.maxOf (leafVals t.l)).take (j + 1) = (ts.map fun t => Lib.maxOf (leafVals t.l)).take j ++ [Lib.maxOf (leafVals t.l)]) := hide (take_next (by rw [List.getElem?_map, hx]; rfl))
        have hrr := hok.reads
        obtain ⟨tA, tn, tc, tl⟩ := t
        dsimp only at hcx hln hmost hrr H6 H7 hlv
        have HLN := hide hln
        have hm63 : tn ≤ 63 := by omega
        clear hx hok hRt hmost hln
        go_wp2_with fail
        obtain ⟨w0, hw0⟩ : ∃ w0, w0 = wr := ⟨_, rfl⟩
        subst hw0
        go_loopw [10, 27] (fun v i wr => ∃ k : Nat, k ≤ tn ∧ i = .int .i64 k ∧ IOwn wr w0.heap.size v (leafVals (tl.take k)) ∧ (leafVals (tl.take k)).length ≤ k ∧ Below w0.heap.size w0 wr) (fun _ i _ => tn - (Lib.intOf i).toNat)
        case atStart => exact ⟨0, Nat.zero_le _, rfl, IOwn.nil_ _ _, Nat.zero_le _, Below.refl _ _⟩
        case round =>
          obtain ⟨k, hk, rfl, own10, hll, hb2⟩ := hrel
          have hsz2 := hb2.size
          by_cases hlk : k < tn
          · obtain ⟨b5, o5, n, rfl, _, hn, g0, g1, g2, g3, g4, g5⟩ := (hrr.below (hb2.mono (by omega))).get hlk
            have HN := hide (leafVals_next hn)
            have hB3 : Below w0.heap.size wr (wr.alloc (.cells #[.int .i64 n.f, .int .i64 n.c, .int .i64 n.l, .int .i64 n.r, .bool n.less, .int .i64 n.v] 33)) := (Below.refl _ _).alloc hsz2 _
            have hO3 := own10.alloc (.cells #[.int .i64 n.f, .int .i64 n.c, .int .i64 n.l, .int .i64 n.r, .bool n.less, .int .i64 n.v] 33)
            obtain ⟨LV, hLV⟩ : ∃ LV, LV = leafVals (tl.take k) := ⟨_, rfl⟩
            rw [← hLV] at HN own10 hll hO3
            clear hn hLV
            by_cases hf : n.f = -1
            · have HN2 : Hid (leafVals (tl.take (k + 1)) = LV ++ [n.v]) := hide (by rw [unhide HN, if_pos hf])
              obtain ⟨nf, nc, nl, nr, nless, nv⟩ := n
              dsimp only at hf g0 g1 g2 g3 g4 g5 HN2 hB3 hO3
              subst hf
              have hs3 := hB3.size
              go_wp2_with (at_builtin; refine app_one elem_int (.tmp 34) (.tmp 37) [.int .i64 nv] rfl rfl rfl hO3 rfl (by simp) rfl (ints_oneCell .i64 [nv]) (by omega) (by omega) ?_; intro v' w3 hown3 hb3 _ _)
              go_wp2_with fail
              go_roundw
              case rel => exact ⟨k + 1, by omega, by go_num, by rw [unhide HN2]; exact iown_app hown3, by rw [unhide HN2, List.length_append]; simp; omega, hb2.trans (hB3.trans hb3)⟩
              case measure => simp [Lib.intOf]; omega
            · have HN2 : Hid (leafVals (tl.take (k + 1)) = LV) := hide (by rw [unhide HN, if_neg hf, List.append_nil])
              have e1 : (n.f == -1) = false := by simp [hf]
              obtain ⟨nf, nc, nl, nr, nless, nv⟩ := n
              dsimp only at e1 g0 g1 g2 g3 g4 g5 HN2 hB3 hO3
              clear hf
              go_wp2_with fail
              go_roundw
              case rel => exact ⟨k + 1, by omega, by go_num, by rw [unhide HN2]; exact hO3, by rw [unhide HN2]; omega, hb2.trans hB3⟩
              case measure => simp [Lib.intOf]; omega
          · obtain rfl : k = tn := by omega
            rw [List.take_of_length_le (by rw [unhide HLN]; exact Nat.le_refl _)] at own10 hll
            obtain ⟨A10, d10, hv10, r10, hm10, _, _⟩ := own10.slice_
            obtain ⟨hne, _⟩ := unhide hlv
            have hp10 : 0 < (leafVals tl).length := List.length_pos_iff.2 hne
            have hmin := hide (minR_any A10 _ d10 _ _ wr r10 hp10 hm10)
            have h10 : wr.ownsRow w0.heap.size 3 1 (.slice A10 (leafVals tl).length d10) (leafVals tl).length ((leafVals tl).map (Value.int .i64)) := by rw [← hv10]; exact own10
            have hap10 : Apart (.slice A10 (leafVals tl).length d10) u6 := fun k hk e => by have := own_block_ge h10 k hk; have := (own6.lt k e).2; omega
            have hmax : Hid (∀ W, W.ownsRow w0.heap.size 3 1 (.slice A10 (leafVals tl).length d10) (leafVals tl).length ((leafVals tl).map (Value.int .i64)) → Calls Tryd.prog 40 #[.slice A10 (leafVals tl).length d10] W fun e w' => e = .returned (.int .i64 (Lib.maxOf (leafVals tl))) ∧ W = w') := hide (fun W ho => maxR_any A10 _ d10 _ _ W (Reads.of_own ho) hp10 hm10)
            obtain ⟨mn, hmn⟩ : ∃ m, m = Lib.minOf (leafVals tl) := ⟨_, rfl⟩
            obtain ⟨mx, hmx⟩ : ∃ m, m = Lib.maxOf (leafVals tl) := ⟨_, rfl⟩
            rw [← hmn] at H6 hmin
            rw [← hmx] at H7 hmax
            subst hv10
            have o6 := own_below own6 hb2
            have o7 := own_below own7 hb2
            have hbase : w.heap.size + 1 ≤ wr.heap.size := by omega
            clear hmn hmx own10 r10 hne own6 own7 hrr
            go_wp2_with fail
            refine (unhide hmin).mono ?_
            rintro e w3 ⟨rfl, rfl⟩
            clear hmin
            go_wp2_with (at_builtin; refine app_one2 elem_int (.tmp 40) (.tmp 43) [.int .i64 mn] rfl rfl rfl o6 rfl rfl rfl (ints_oneCell .i64 [mn]) (by omega) hbase ?_; intro v6' w4 o6' hb4 hg4 hn4)
            obtain ⟨o7', hap'⟩ := own_aside o7 o6 hap.symm hg4 hn4
            obtain ⟨o10', _⟩ := own_aside h10 o6 hap10 hg4 hn4
            have hz4 := hb4.size
            have hmax4 := hide (unhide hmax w4 o10')
            clear hmax h10 o10' hap10 o6 o7 hg4 hn4
            refine (unhide hmax4).mono ?_
            rintro e w5 ⟨rfl, rfl⟩
            clear hmax4
            go_wp2_with (at_builtin; refine app_one2 elem_int (.tmp 45) (.tmp 48) [.int .i64 mx] rfl rfl rfl o7' rfl rfl rfl (ints_oneCell .i64 [mx]) (by omega) (by omega) ?_; intro v7' w6 o7'' hb6 hg6 hn6)
            obtain ⟨o6'', hap2⟩ := own_aside o6' o7' hap'.symm hg6 hn6
            go_wp2_with fail
            go_roundw
            case rel => exact ⟨j + 1, by omega, by go_num, by rw [unhide H6, List.map_append]; exact o6'', by rw [unhide H7, List.map_append]; exact o7'', hap2, ((hbel.trans (hb2.mono (by omega))).trans hb4).trans hb6⟩
            case measure => simp [Lib.intOf]; omega
      · obtain rfl : j = nt := by omega
        rw [List.take_of_length_le (by rw [List.length_map, unhide HNT]; exact Nat.le_refl _)] at own6 own7
        have o6 : IOwn wr w.heap.size u6 (ts.map fun t => Lib.minOf (leafVals t.l)) := by
          have := own_low own6 (show w.heap.size ≤ w.heap.size + 1 by omega)
          unfold IOwn; rw [List.length_map, unhide HNT]; exact this
        have o7 : IOwn wr w.heap.size u7 (ts.map fun t => Lib.maxOf (leafVals t.l)) := by
          have := own_low own7 (show w.heap.size ≤ w.heap.size + 1 by omega)
          unfold IOwn; rw [List.length_map, unhide HNT]; exact this
        have hcon := hide (unhide hbw u6 u7 wr o6 o7 hbw')
        have hk : ∀ o, wr.cell? ⟨w.heap.size, o, none⟩ = w1.cell? ⟨w.heap.size, o, none⟩ := fun o => hbel.cell (p := ⟨w.heap.size, o, none⟩) (by show w.heap.size < w.heap.size + 1; omega)
        obtain ⟨d0, d1, d2, d3⟩ := unhide bx1
        have e0 := (hk 0).trans d0
        have e1 := (hk 1).trans d1
        have e2 := (hk 2).trans d2
        have e3 := (hk 3).trans d3
        clear hk d0 d1 d2 d3 o6 o7 own6 own7 hbw bx1
        go_wp2_with fail
        refine (unhide hcon).mono ?_
        rintro e w5 ⟨rfl, hb5⟩
        have hB5 := hbw'.trans (hb5.mono hbw'.size)
        go_wp2_with fail
        refine bodyPost_ret (v := .tuple #[.int .i64 B1, .int .i64 B2, .nilIface]) (by simp [results, Tryd.results25, go_sem]) rfl ⟨?_, hB5⟩
        rw [unhide HV]
  · have hv := errV_1 h0
    have HV := hide hv
    have HBV : Hid (boundsV g = (0, 0)) := hide (by unfold boundsV; rw [if_neg h0])
    rw [unhide HBV]
    obtain ⟨E, hE⟩ : ∃ E, E = g.e := ⟨_, rfl⟩
    rw [← hE] at hck hv HV ⊢
    clear hE h0 HBV hg
    obtain ⟨f, way, Aw, nw, cw, ws, At, nt, ct, ts⟩ := g
    simp only [Gv.val] at hck ⊢
    dsimp only at hW bx c0 c1 c2 c3
    go_enter Tryd.func25, Tryd.ntmps25
    go_wp2_with fail
    rw [← hW]
    clear hW
    refine (unhide hck).mono ?_
    rintro e w1 ⟨rfl, hb1⟩
    rw [hv]
    clear hv hck
    go_wp2_with fail
    refine bodyPost_ret (v := .tuple #[.int .i64 0, .int .i64 0, .iface 61 (.int .i64 E)]) (by simp [results, Tryd.results25, go_sem]) rfl ⟨?_, hb0.trans (hb1.mono (by omega))⟩
    rw [unhide HV]
end Go.Proofs.YtliacpdbeghmlaaDoor
