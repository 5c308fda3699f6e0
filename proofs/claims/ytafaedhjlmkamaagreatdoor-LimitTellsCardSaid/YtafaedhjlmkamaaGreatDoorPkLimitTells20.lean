/- Part 20 of what LawLimitTells needs: LimitG. Conditions: as each lemma names. -/
import Derived.Test.YtafaedhjlmkamaaGreatDoorPkLimitTells15
import Derived.Test.YtafaedhjlmkamaaGreatDoorPkLimitTells19
import Derived.Deep.DeepCutAuto
import Derived.Deep.CutRange
import Derived.Deep.RegionLaw
/- Package limit: Grove. Conditions: arguments read as data. -/
namespace Go.Proofs.YtafaedhjlmkamaaGreatDoor
set_option linter.unusedVariables false
set_option linter.unusedSimpArgs false
open Go.RowKit

def limGE (g : Gv) (l : List Sp) : Int := if g.e = 0 then (if (l.length : Int) = g.f then spansE l else 3) else g.e
noncomputable def limGV (g : Gv) (l : List Sp) : Int × Int := if limGE g l = 0 then betwV g.way g.ws (g.ts.map fun t => (endsV t.l l).low) (g.ts.map fun t => (endsV t.l l).high) else (0, 0)
theorem enTo_in {t : List Nd} {fe : Int} (hR : Right t fe) (ro : Nat → Option (List Sp)) (hro : ∀ i l, ro i = some l → ∃ x, t[i]? = some x ∧ x.f = -1) : ∀ k, (-1000000 ≤ (enTo t ro k).low ∧ (enTo t ro k).low ≤ 1000000) ∧ (-1000000 ≤ (enTo t ro k).high ∧ (enTo t ro k).high ≤ 1000000) := by
  intro k
  induction k with
  | zero => exact ⟨⟨show (-1000000 : Int) ≤ 0 by decide, show (0 : Int) ≤ 1000000 by decide⟩, show (-1000000 : Int) ≤ 0 by decide, show (0 : Int) ≤ 1000000 by decide⟩
  | succ k ih =>
    rw [enTo_next]
    unfold enStep
    cases h : ro k with
    | none => exact ih
    | some l =>
      obtain ⟨x, hx, hf⟩ := hro k l h
      have hv : valAt t k = x.v := valAt_of hx
      have hb : -1000000 ≤ x.v ∧ x.v ≤ 1000000 := by
        rcases node_of (hR.node k x hx) with h1 | h1
        · exact ⟨h1.2.1, h1.2.2.1⟩
        · omega
      dsimp only
      rw [hv]
      refine ⟨?_, ?_⟩
      · split
        · exact hb
        · exact ih.1
      · split
        · exact hb
        · exact ih.2
theorem rowOf_in {ys : List (Nat × List Sp)} {i : Nat} {l : List Sp} (h : rowOf ys i = some l) : (i, l) ∈ ys ∧ anyB l = true := by
  unfold rowOf at h
  have h1 := List.mem_of_getLast? h
  obtain ⟨p, hp, rfl⟩ := List.mem_map.1 h1
  obtain ⟨hp1, hp2⟩ := List.mem_filter.1 hp
  rw [Bool.and_eq_true, beq_iff_eq] at hp2
  refine ⟨?_, hp2.2⟩
  rw [← hp2.1]; exact hp1
theorem roL_leaf {t : List Nd} {l li : List Sp} {i : Nat} (h : roL t l i = some li) : (i, li) ∈ lv t t.length 0 l ∧ anyB li = true ∧ ∃ x, t[i]? = some x ∧ x.f = -1 := by
  obtain ⟨h1, h2⟩ := rowOf_in h
  refine ⟨h1, h2, ?_⟩
  have : i ∈ idx t t.length 0 := by rw [← lv_idx t t.length 0 l]; exact List.mem_map_of_mem (f := (·.1)) h1
  exact (idx_und _ _ i this).2
theorem endsV_in {t : List Nd} {fe : Int} (hR : Right t fe) (l : List Sp) : (-1000000 ≤ (endsV t l).low ∧ (endsV t l).low ≤ 1000000) ∧ (-1000000 ≤ (endsV t l).high ∧ (endsV t l).high ≤ 1000000) := enTo_in hR _ (fun i li h => (roL_leaf h).2.2) _

theorem wp_name {P : Program} {c : Code} {Q : Exit → Act → World → Prop} {a : Act} {W : World} (h : ∀ X, X = W → Code.wp P c Q a X) : Code.wp P c Q a W := h W rfl
theorem aside2 {V w' : World} {base base' : Nat} {e e' : TypeId} {size size' n n' : Nat} {v u v' : Value} {xs xs' : List Value} (hu : V.ownsRow base e size u n xs) (hv : V.ownsRow base' e' size' v n' xs') (ha : Apart u v) (hg : V.grownBy w' v.ownBlock) (hn : v'.ownBlock = v.ownBlock ∨ v'.ownBlock = some V.heap.size) :
    w'.ownsRow base e size u n xs ∧ Apart u v' := by
  constructor
  · refine hu.kept hg ?_
    rcases hb : u.ownBlock with _ | k
    · exact .inl rfl
    · exact .inr fun e => ha k hb e.symm
  · intro k hk e
    rcases hn with hn | hn
    · exact ha k hk (by rw [← hn]; exact e)
    · rw [e] at hn
      injection hn with hn
      have := (hu.lt k hk).2
      omega
theorem Reads.grown2 {w w' : World} {B size n : Nat} {A : Option Addr} {xs : List Value} (h : Reads w B size A n xs) (hB : B ≤ w.heap.size) {row : Option Nat} (hg : w.grownBy w' row) (hne : ∀ a, A = some a → row ≠ some a.block) : Reads w' B size A n xs :=
  ⟨h.1, fun hn => by
    obtain ⟨ad, e, hb, hc⟩ := h.2 hn
    refine ⟨ad, e, hb, fun j u hu => ?_⟩
    rw [← hc j u hu]
    exact World.cell?_of_block (by rw [block_of_add]; exact hg.block ad.block (by omega) (fun h' => hne ad e h'.symm))⟩

set_option maxRecDepth 100000 in
set_option maxHeartbeats 4000000 in
theorem limGrove_any (g : Gv) (C : Option Addr) (n c : Nat) (l : List Sp) (w : World) (hg : GReads w w.heap.size g) (hl : SReads w w.heap.size C n l) (hn : n ≤ maxLen) (hC : C = none → c = 0) :
    Calls Tryz.prog 13 #[g.val, .slice C n c] w fun e w' => e = .returned (.tuple #[.int .i64 (limGV g l).1, .int .i64 (limGV g l).2, errV (limGE g l)]) ∧ Below w.heap.size w w' := by
  obtain ⟨W, hW, bx, hWs, hb0⟩ := gbox w g.f g.way g.Aw g.nw g.cw g.At g.nt g.ct
  have hck := hide (gcheck_any g W ((hg.below hb0).more (by omega)))
  have hll := hl.len
  by_cases h0 : g.e = 0
  case neg =>
    have HE : Hid (limGE g l = g.e) := hide (by unfold limGE; rw [if_neg h0])
    have HBV : Hid (limGV g l = (0, 0)) := hide (by unfold limGV; rw [if_neg (by rw [unhide HE]; exact h0)])
    have hv := errV_1 h0
    have HV := hide hv
    rw [unhide HBV, unhide HE]
    obtain ⟨E, hE⟩ : ∃ E, E = g.e := ⟨_, rfl⟩
    rw [← hE] at hck hv HV ⊢
    clear hE h0 HBV HE hg hll
    obtain ⟨f, way, Aw, nw, cw, ws, At, nt, ct, ts⟩ := g
    simp only [Gv.val] at hck ⊢
    dsimp only at hW bx
    have c0 := bx.cell 0
    have c1 := bx.cell 1
    have c2 := bx.cell 2
    have c3 := bx.cell 3
    simp at c0 c1 c2 c3
    go_enter Tryz.func13, Tryz.ntmps13
    go_wp2_with fail
    rw [← hW]
    clear hW
    refine (unhide hck).mono ?_
    rintro e w1 ⟨rfl, hb1⟩
    rw [hv]
    clear hv hck
    go_wp2_with fail
    go_ret3
    exact ⟨by rw [unhide HV]; rfl, hb0.trans (hb1.mono (by omega))⟩
  have hv := errV_0 h0
  have HV := hide hv
  have hG := groveE_right h0
  by_cases h1 : (n : Int) = g.f
  case neg =>
    have HE : Hid (limGE g l = 3) := hide (by unfold limGE; rw [if_pos h0, hll, if_neg h1])
    have HBV : Hid (limGV g l = (0, 0)) := hide (by unfold limGV; rw [if_neg (by rw [unhide HE]; decide)])
    rw [unhide HBV, unhide HE]
    have H3 : Hid (errV 3 = .iface 62 (.int .i64 3)) := hide (errV_1 (by decide))
    rw [h0] at hck
    have f1 : ((n : Int) != g.f) = true := by simpa using h1
    clear h0 HBV HE hg hll hG h1
    obtain ⟨f, way, Aw, nw, cw, ws, At, nt, ct, ts⟩ := g
    simp only [Gv.val] at hck ⊢
    dsimp only at hW bx f1
    have c0 := bx.cell 0
    have c1 := bx.cell 1
    have c2 := bx.cell 2
    have c3 := bx.cell 3
    simp at c0 c1 c2 c3
    go_enter Tryz.func13, Tryz.ntmps13
    go_wp2_with fail
    rw [← hW]
    clear hW
    refine (unhide hck).mono ?_
    rintro e w1 ⟨rfl, hb1⟩
    rw [errV_0 rfl]
    have d0 := (bx.below hb1 (by omega)).cell 0
    simp at d0
    clear hck c0 c1 c2 c3 hv HV
    go_wp2_with fail
    go_ret3
    exact ⟨by rw [unhide H3]; rfl, hb0.trans (hb1.mono (by omega))⟩
  by_cases h2 : spansE l = 0
  case neg =>
    have HE : Hid (limGE g l = spansE l) := hide (by unfold limGE; rw [if_pos h0, hll, if_pos h1])
    have HBV : Hid (limGV g l = (0, 0)) := hide (by unfold limGV; rw [if_neg (by rw [unhide HE]; exact h2)])
    rw [unhide HBV, unhide HE]
    have H3 := hide (errV_1 h2)
    rw [h0] at hck
    have f1 : ((n : Int) != g.f) = false := by simpa using h1
    clear h0 HBV HE hg hll hG h1 h2
    obtain ⟨f, way, Aw, nw, cw, ws, At, nt, ct, ts⟩ := g
    simp only [Gv.val] at hck ⊢
    dsimp only at hW bx f1
    have c0 := bx.cell 0
    have c1 := bx.cell 1
    have c2 := bx.cell 2
    have c3 := bx.cell 3
    simp at c0 c1 c2 c3
    go_enter Tryz.func13, Tryz.ntmps13
    go_wp2_with fail
    rw [← hW]
    clear hW
    refine (unhide hck).mono ?_
    rintro e w1 ⟨rfl, hb1⟩
    rw [errV_0 rfl]
    have d0 := (bx.below hb1 (by omega)).cell 0
    simp at d0
    have hB1 := hb0.trans (hb1.mono (by omega))
    clear hck c0 c1 c2 c3 hv HV
    go_wp2_with fail
    refine (pcheck_any C n c _ l w1 ((hl.below hB1).more hB1.size) (Nat.le_refl _) hn).mono ?_
    rintro e w2 ⟨rfl, hb2⟩
    rw [unhide H3]
    go_wp2_with fail
    go_ret3
    exact ⟨by rw [unhide H3]; rfl, hB1.trans (hb2.mono hB1.size)⟩
  have HE : Hid (limGE g l = 0) := hide (by unfold limGE; rw [if_pos h0, hll, if_pos h1, h2])
  have HBV : Hid (limGV g l = betwV g.way g.ws (g.ts.map fun t => (endsV t.l l).low) (g.ts.map fun t => (endsV t.l l).high)) := hide (by unfold limGV; rw [if_pos (unhide HE)])
  have hnt : g.ts.length = g.nt := hg.ts.len
  have hnw : g.ws.length = g.nw := hg.ws.len
  have hn12 : g.nt ≤ 12 := by have := hG.most; omega
  have hww : g.nw = g.nt := by have := hG.wlen; omega
  have hpos : 0 < g.nt := by have := hG.pos; omega
  have hS2 := hide (errV_0 h2)
  have HTR : Hid (∀ t ∈ g.ts, Right t.l n) := hide (fun t ht => by rw [h1]; exact right_of (hG.trees t ht))
  have hbw := hide (fun (v6 v7 : Value) (w1 : World) (o6 : IOwn w1 w.heap.size v6 (g.ts.map fun t => (endsV t.l l).low)) (o7 : IOwn w1 w.heap.size v7 (g.ts.map fun t => (endsV t.l l).high)) (hb : Below w.heap.size w w1) => show Calls Tryz.prog 30 #[g.val, v6, v7] w1 fun e w' => e = .returned (.tuple #[.int .i64 (limGV g l).1, .int .i64 (limGV g l).2]) ∧ Below w1.heap.size w1 w' from by
    obtain ⟨A6, d6, rfl, r6, _, _, _⟩ := o6.slice_
    obtain ⟨A7, d7, rfl, r7, _, _, _⟩ := o7.slice_
    rw [unhide HBV]
    refine between_any g A6 A7 _ d6 _ d7 _ _ w1 ((hg.ws.below hb).more hb.size) r6 r7 (by simp; omega) (by simp; omega) (by omega) (by omega) hG.weights ?_ ?_
    · intro x hx
      obtain ⟨t, ht, rfl⟩ := List.mem_map.1 hx
      exact (endsV_in (right_of (hG.trees t ht)) l).1
    · intro x hx
      obtain ⟨t, ht, rfl⟩ := List.mem_map.1 hx
      exact (endsV_in (right_of (hG.trees t ht)) l).2)
  have htr := hg.ts
  have HNT := hide hnt
  obtain ⟨B1, hB1⟩ : ∃ B, B = (limGV g l).1 := ⟨_, rfl⟩
  obtain ⟨B2, hB2⟩ : ∃ B, B = (limGV g l).2 := ⟨_, rfl⟩
  rw [← hB1, ← hB2] at hbw ⊢
  clear hG hnt hnw hww HBV hB1 hB2 h0 hg h2 hll
  obtain ⟨f, way, Aw, nw, cw, ws, At, nt, ct, ts⟩ := g
  simp only [Gv.val] at hck hbw ⊢
  dsimp only at hW bx htr hn12 hpos HTR HNT hbw h1
  subst h1
  have c0 := bx.cell 0
  have c1 := bx.cell 1
  have c2 := bx.cell 2
  have c3 := bx.cell 3
  simp at c0 c1 c2 c3
  go_enter Tryz.func13, Tryz.ntmps13
  go_wp2_with fail
  rw [← hW]
  clear hW
  refine (unhide hck).mono ?_
  rintro e w1 ⟨rfl, hb1⟩
  rw [hv]
  clear hv hck
  have z1 := hb1.size
  have bx1 := bx.below hb1 (by omega)
  have hB1 := hb0.trans (hb1.mono (by omega))
  have d0 := bx1.cell 0
  have d1 := bx1.cell 1
  have d2 := bx1.cell 2
  have d3 := bx1.cell 3
  simp at d0 d1 d2 d3
  clear c0 c1 c2 c3 bx hb1 hb0
  have e1 : ((n : Int) != (n : Int)) = false := by simp
  go_wp2_with fail
  refine (pcheck_any C n c _ l w1 ((hl.below hB1).more hB1.size) (Nat.le_refl _) hn).mono ?_
  rintro e w2 ⟨rfl, hb2⟩
  rw [unhide hS2]
  have z2 := hb2.size
  have bx2 := bx1.below hb2 (by omega)
  have hB2 := hB1.trans (hb2.mono (by omega))
  clear d0 d1 d2 d3 bx1 hb2 hB1
  have d0 := bx2.cell 0
  have d1 := bx2.cell 1
  have d2 := bx2.cell 2
  have d3 := bx2.cell 3
  simp at d0 d1 d2 d3
  have hs2 : w.heap.size + 1 ≤ w2.heap.size := by omega
  go_wp2_with fail
  have HD : Hid (w2.cell? ⟨w.heap.size, 0, none⟩ = some (.int .i64 n) ∧ w2.cell? ⟨w.heap.size, 1, none⟩ = some (.int .i64 way) ∧ w2.cell? ⟨w.heap.size, 2, none⟩ = some (.slice Aw nw cw) ∧ w2.cell? ⟨w.heap.size, 3, none⟩ = some (.slice At nt ct)) := hide ⟨d0, d1, d2, d3⟩
  clear d0 d1 d2 d3
  go_loopw [9, 10, 33] (fun v6 v7 i wr => ∃ j : Nat, j ≤ nt ∧ i = .int .i64 j ∧ wr.ownsRow (w.heap.size + 1) 3 1 v6 j (((ts.map fun t => (endsV t.l l).low).take j).map (Value.int .i64)) ∧
        wr.ownsRow (w.heap.size + 1) 3 1 v7 j (((ts.map fun t => (endsV t.l l).high).take j).map (Value.int .i64)) ∧ Apart v6 v7 ∧ Below (w.heap.size + 1) w2 wr) (fun _ _ i _ => nt - (Lib.intOf i).toNat)
  case atStart => exact ⟨0, Nat.zero_le _, rfl, World.ownsRow_nil _ _ _ _, World.ownsRow_nil _ _ _ _, Apart.nil_ _ _ _, Below.refl _ _⟩
  case round =>
    obtain ⟨j, hj, rfl, own6, own7, hap, hbel⟩ := hrel
    have hsz := hbel.size
    have hbw' := hB2.trans (hbel.mono (by omega))
    by_cases hlt : j < nt
    · obtain ⟨b, o, t, rfl, _, hx, hcx, hok⟩ := (htr.below hbw').get hlt
      have hRt := unhide HTR t (List.mem_of_getElem? hx)
      have H6 : Hid ((ts.map fun t => (endsV t.l l).low).take (j + 1) = (ts.map fun t => (endsV t.l l).low).take j ++ [(endsV t.l l).low]) := hide (take_next (by rw [List.getElem?_map, hx]; rfl))
      have H7 : Hid ((ts.map fun t => (endsV t.l l).high).take (j + 1) = (ts.map fun t => (endsV t.l l).high).take j ++ [(endsV t.l l).high]) := hide (take_next (by rw [List.getElem?_map, hx]; rfl))
      have HO := hide (of2_any t.A C t.n t.c n c t.l l hRt wr (hok.reads.more hbw'.size) ((hl.below hbw').more hbw'.size) hC)
      obtain ⟨tA, tn, tc, tl⟩ := t
      dsimp only at hcx H6 H7 HO
      clear hx hok hRt
      go_wp2_with fail
      refine (unhide HO).mono ?_
      rintro e w3 ⟨A1, n1, c1, A2, n2, c2, rfl, _, _, _, _, _, _, hb3⟩
      obtain ⟨E, hE⟩ : ∃ E, E = endsV tl l := ⟨_, rfl⟩
      rw [← hE] at H6 H7 ⊢
      obtain ⟨lo, hi, ls, ms, so⟩ := E
      dsimp only at H6 H7 ⊢
      have o6 := own_below own6 hb3
      have o7 := own_below own7 hb3
      have hz3 := hb3.size
      clear hE HO own6 own7
      go_upto_region 14 with (fail)
      refine wp_name fun X hX => ?_
      have bX : Blk X w3.heap.size 60 #[.int .i64 lo, .int .i64 hi, .slice A1 n1 c1, .slice A2 n2 c2, .bool so] := by rw [hX]; exact Blk.new _ _ _
      have o6X : X.ownsRow (w.heap.size + 1) 3 1 u9 j (((ts.map fun t => (endsV t.l l).low).take j).map (Value.int .i64)) := by rw [hX]; exact o6.alloc _
      have o7X : X.ownsRow (w.heap.size + 1) 3 1 u10 j (((ts.map fun t => (endsV t.l l).high).take j).map (Value.int .i64)) := by rw [hX]; exact o7.alloc _
      have hbX : Below (w.heap.size + 1) w2 X := by rw [hX]; exact ((hbel.trans (hb3.mono (by omega))).alloc (by omega) _)
      have hsX : w.heap.size + 1 ≤ X.heap.size := by have := hbX.size; omega
      have k0 := bX.cell 0
      have k1 := bX.cell 1
      simp at k0 k1
      obtain ⟨i0, hi0, hz0, hs0, hby0⟩ := info_parts elem_int.info
      have hlX := bX.lt
      have N1 := Reads.new_ X 1 1 [.int .i64 lo] 3 rfl
      have N2 := Reads.alloc N1 (by rw [World.size_alloc]; exact Nat.le_refl _) (.cells #[.int .i64 hi] 3)
      have N3 := Reads.new_ (X.alloc (.cells #[.int .i64 hi] 3)) 1 1 [.int .i64 lo] 3 rfl
      have M1 := Reads.new_ (X.alloc (.cells #[.int .i64 lo] 3)) 1 1 [.int .i64 hi] 3 rfl
      have M2 := Reads.alloc (Reads.new_ X 1 1 [.int .i64 hi] 3 rfl) (by rw [World.size_alloc]; exact Nat.le_refl _) (.cells #[.int .i64 lo] 3)
      rw [World.size_alloc] at N3 M1
      have hu9 : ∀ k, u9.ownBlock = some k → k < X.heap.size := fun k hk => (o6X.lt k hk).2
      have HB1 := hide ((Below.refl (w.heap.size + 1) X).alloc hsX (.cells #[.int .i64 lo] 3))
      clear hX o6 o7 hb3 hbel
      have hneq : some w3.heap.size ≠ u9.ownBlock := fun e => own_blk_ne o6X bX (by decide) e.symm
      have HG := hide (fun (V : World) (p6 : V.ownsRow (w.heap.size + 1) 3 1 u9 j (((ts.map fun t => (endsV t.l l).low).take j).map (Value.int .i64))) (p7 : V.ownsRow (w.heap.size + 1) 3 1 u10 j (((ts.map fun t => (endsV t.l l).high).take j).map (Value.int .i64)))
          (pb : Blk V w3.heap.size 60 #[.int .i64 lo, .int .i64 hi, .slice A1 n1 c1, .slice A2 n2 c2, .bool so]) (pB : Below (w.heap.size + 1) X V) (v6 : Value) (w4 : World) (hg4 : V.grownBy w4 u9.ownBlock) (hn4 : v6.ownBlock = u9.ownBlock ∨ v6.ownBlock = some V.heap.size) =>
        (show w4.cell? ⟨w3.heap.size, 1, none⟩ = some (.int .i64 hi) ∧ (w4.ownsRow (w.heap.size + 1) 3 1 u10 j (((ts.map fun t => (endsV t.l l).high).take j).map (Value.int .i64)) ∧ Apart u10 v6) ∧ Below (w.heap.size + 1) X w4 ∧ w.heap.size + 1 ≤ w4.heap.size from
          ⟨(pb.grown hg4 hneq).cell 1, aside2 p7 p6 hap.symm hg4 hn4, pB.grown hg4 (Nat.le_trans hsX pB.size) (own_block_ge o6X), Nat.le_trans hsX (pB.grown hg4 (Nat.le_trans hsX pB.size) (own_block_ge o6X)).size⟩))
      have GA := hide (unhide HG (X.alloc (.cells #[.int .i64 lo] 3)).drew (o6X.alloc (.cells #[.int .i64 lo] 3)) (o7X.alloc (.cells #[.int .i64 lo] 3)) (bX.alloc (.cells #[.int .i64 lo] 3)).drew ((Below.refl _ _).alloc hsX (.cells #[.int .i64 lo] 3)).drew)
      have GB := hide (unhide HG ((X.alloc (.cells #[.int .i64 lo] 3)).alloc (.cells #[.int .i64 hi] 3)).drew ((o6X.alloc (.cells #[.int .i64 lo] 3)).alloc (.cells #[.int .i64 hi] 3)) ((o7X.alloc (.cells #[.int .i64 lo] 3)).alloc (.cells #[.int .i64 hi] 3)) ((bX.alloc (.cells #[.int .i64 lo] 3)).alloc (.cells #[.int .i64 hi] 3)).drew (((Below.refl _ _).alloc hsX (.cells #[.int .i64 lo] 3)).alloc (by rw [World.size_alloc]; omega) (.cells #[.int .i64 hi] 3)).drew)
      have GC := hide (unhide HG ((X.alloc (.cells #[.int .i64 hi] 3)).alloc (.cells #[.int .i64 lo] 3)).drew ((o6X.alloc (.cells #[.int .i64 hi] 3)).alloc (.cells #[.int .i64 lo] 3)) ((o7X.alloc (.cells #[.int .i64 hi] 3)).alloc (.cells #[.int .i64 lo] 3)) ((bX.alloc (.cells #[.int .i64 hi] 3)).alloc (.cells #[.int .i64 lo] 3)).drew (((Below.refl _ _).alloc hsX (.cells #[.int .i64 hi] 3)).alloc (by rw [World.size_alloc]; omega) (.cells #[.int .i64 lo] 3)).drew)
      have PB : Hid (∀ w4 : World, ((X.alloc (.cells #[.int .i64 lo] 3)).alloc (.cells #[.int .i64 hi] 3)).drew.grownBy w4 u9.ownBlock → Reads w4 (X.heap.size + 1 + 1) 1 (some ⟨X.heap.size + 1, 0, none⟩) 1 [.int .i64 hi]) := hide (fun w4 hg => (Reads.drew M1).grown2 (by rw [World.size_drew, World.size_alloc, World.size_alloc]; exact Nat.le_refl _) hg (fun a ha e => by cases ha; have : X.heap.size + 1 < X.heap.size := hu9 _ e; omega))
      have PC : Hid (∀ w4 : World, ((X.alloc (.cells #[.int .i64 hi] 3)).alloc (.cells #[.int .i64 lo] 3)).drew.grownBy w4 u9.ownBlock → Reads w4 (X.heap.size + 1) 1 (some ⟨X.heap.size, 0, none⟩) 1 [.int .i64 hi]) := hide (fun w4 hg => (Reads.drew M2).grown2 (by rw [World.size_drew, World.size_alloc, World.size_alloc]; omega) hg (fun a ha e => by cases ha; have : X.heap.size < X.heap.size := hu9 _ e; omega))
      have SA : w.heap.size + 1 ≤ (X.alloc (.cells #[.int .i64 lo] 3)).heap.size := by rw [World.size_alloc]; omega
      have SB : w.heap.size + 1 ≤ ((X.alloc (.cells #[.int .i64 lo] 3)).alloc (.cells #[.int .i64 hi] 3)).heap.size := by rw [World.size_alloc, World.size_alloc]; omega
      have SC : w.heap.size + 1 ≤ ((X.alloc (.cells #[.int .i64 hi] 3)).alloc (.cells #[.int .i64 lo] 3)).heap.size := by rw [World.size_alloc, World.size_alloc]; omega
      have hj63 : j + 1 ≤ maxLen := by unfold maxLen; omega
      have hj8 : (j + 1) * 8 ≤ 140737488355328 := by omega
      have HSA := hide SA; have HSB := hide SB; have HSC := hide SC
      have HN1 := hide N1; have HN2 := hide N2; have HN3 := hide N3
      clear HG M1 M2 SA SB SC N1 N2 N3
      go_region_law (first
        | (refine step_append_any _ rfl (.tmp 40) (.tmp 43) 24 rfl (w.heap.size + 1) 3 i0 (.int .i64 0) 1 8 Tryz.underlying24 hi0 hz0 hs0 hby0 rfl (by decide) u9 j _ rfl (by first | exact o6X.alloc _ | exact (o6X.alloc _).alloc _) _ _ 1 1 [.int .i64 lo] rfl (by first | exact unhide HN1 | exact unhide HN2 | exact unhide HN3) (ints_oneCell .i64 [lo]) hj63 hj8 (by first | exact unhide HSA | exact unhide HSB | exact unhide HSC) ?_
           intro v6 w4 o64 hg4 hn4
           obtain ⟨k14, ⟨o74, hap4⟩, hb4, hs4⟩ := (by first | exact unhide GA v6 w4 hg4 hn4 | exact unhide GB v6 w4 hg4 hn4 | exact unhide GC v6 w4 hg4 hn4 : w4.cell? ⟨w3.heap.size, 1, none⟩ = some (.int .i64 hi) ∧ (w4.ownsRow (w.heap.size + 1) 3 1 u10 j (((ts.map fun t => (endsV t.l l).high).take j).map (Value.int .i64)) ∧ Apart u10 v6) ∧ Below (w.heap.size + 1) X w4 ∧ w.heap.size + 1 ≤ w4.heap.size)
           have P4 := hide (Reads.new_ w4 1 1 [.int .i64 hi] 3 rfl))
        | (refine step_append_any _ rfl (.tmp 45) (.tmp 48) 24 rfl (w.heap.size + 1) 3 i0 (.int .i64 0) 1 8 Tryz.underlying24 hi0 hz0 hs0 hby0 rfl (by decide) u10 j _ rfl (by first | exact o74 | exact o74.alloc _) _ _ 1 1 [.int .i64 hi] rfl (by first | exact unhide P4 | exact unhide PB w4 hg4 | exact unhide PC w4 hg4) (ints_oneCell .i64 [hi]) hj63 hj8 (by first | exact hs4 | (rw [World.size_alloc]; omega)) ?_
           intro v7 w6 o76 hg6 hn6
           obtain ⟨o66, hap6⟩ := (by first | exact aside2 o64 o74 hap4.symm hg6 hn6 | exact aside2 (o64.alloc _) (o74.alloc _) hap4.symm hg6 hn6 : w6.ownsRow (w.heap.size + 1) 3 1 v6 (j + 1) ((((ts.map fun t => (endsV t.l l).low).take j).map (Value.int .i64)) ++ [.int .i64 lo]) ∧ Apart v6 v7)
           have hb6 : Below (w.heap.size + 1) X w6 := (by first | exact hb4.grown hg6 hs4 (own_block_ge o74) | exact (hb4.alloc hs4 _).grown hg6 (by rw [World.size_alloc]; omega) (own_block_ge o74))))
      all_goals
        go_wp2_with fail
        go_roundw
        case rel => exact ⟨j + 1, by omega, by go_num, by rw [unhide H6, List.map_append]; exact o66, by rw [unhide H7, List.map_append]; exact o76, hap6, hbX.trans hb6⟩
        case measure => simp [Lib.intOf]; omega
    · obtain rfl : j = nt := by omega
      rw [List.take_of_length_le (by rw [List.length_map, unhide HNT]; exact Nat.le_refl _)] at own6 own7
      have o6 : IOwn wr w.heap.size u9 (ts.map fun t => (endsV t.l l).low) := by
        have := own_low own6 (show w.heap.size ≤ w.heap.size + 1 by omega)
        unfold IOwn; rw [List.length_map, unhide HNT]; exact this
      have o7 : IOwn wr w.heap.size u10 (ts.map fun t => (endsV t.l l).high) := by
        have := own_low own7 (show w.heap.size ≤ w.heap.size + 1 by omega)
        unfold IOwn; rw [List.length_map, unhide HNT]; exact this
      have hcon := hide (unhide hbw u9 u10 wr o6 o7 hbw')
      have hk : ∀ o, wr.cell? ⟨w.heap.size, o, none⟩ = w2.cell? ⟨w.heap.size, o, none⟩ := fun o => hbel.cell (p := ⟨w.heap.size, o, none⟩) (by show w.heap.size < w.heap.size + 1; omega)
      obtain ⟨d0, d1, d2, d3⟩ := unhide HD
      have e0 := (hk 0).trans d0
      have e1' := (hk 1).trans d1
      have e2 := (hk 2).trans d2
      have e3 := (hk 3).trans d3
      clear hk d0 d1 d2 d3 o6 o7 own6 own7 hbw HD
      go_wp2_with fail
      refine (unhide hcon).mono ?_
      rintro e w5 ⟨rfl, hb5⟩
      have hB5 := hbw'.trans (hb5.mono hbw'.size)
      go_wp2_with fail
      go_ret3
      exact ⟨by rw [unhide HE, errV_0 rfl]; rfl, hB5⟩
end Go.Proofs.YtafaedhjlmkamaaGreatDoor
