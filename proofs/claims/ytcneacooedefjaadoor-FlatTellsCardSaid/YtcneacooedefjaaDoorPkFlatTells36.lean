/- Part 36 of what LawFlatTells needs: FlatAgain. Conditions: as each lemma names. -/
import Derived.Test.YtcneacooedefjaaDoorPkFlatTells29
import Derived.Test.YtcneacooedefjaaDoorPkFlatTells30
import Derived.Test.YtcneacooedefjaaDoorPkFlatTells31
import Derived.Test.YtcneacooedefjaaDoorPkFlatTells33
import Derived.Test.YtcneacooedefjaaDoorPkFlatTells34
import Derived.Test.YtcneacooedefjaaDoorPkFlatTells35
/- FlatAgain: the plain law and the walk. Conditions: the argument reads as a grove; the variable errors.errorType holds the handle of error. -/
namespace Go.Proofs.YtcneacooedefjaaDoor
set_option linter.unusedVariables false
set_option linter.unusedSimpArgs false
open Go.RowKit

theorem pairsL_flat {a : List Nd} {n : Nat} (ha : Right a n) : pairsL a (flatT a) n = [] := by
  by_cases h : pairsL a (flatT a) n = []
  · exact h
  · obtain ⟨_, h2⟩ := pairsL_head ha ha.flat h
    exact absurd (ha.flatValue _).symm h2
theorem flPre_map {ts : List (List Nd)} {fe : Int} (h : ∀ t ∈ ts, Right t fe) : ∀ k, k ≤ ts.length → flPre (ts.map flatT) k = flPre ts k := by
  intro k
  induction k with
  | zero => intro _; rfl
  | succ k ih =>
    intro hk
    have hx : ts[k]? = some ts[k] := List.getElem?_eq_getElem (by omega)
    have hR := h _ (List.mem_of_getElem? hx)
    rw [flPre_succ hx hR, flPre_succ (ts := ts.map flatT) (t := flatT ts[k]) (by rw [List.getElem?_map, hx]; rfl) hR.flat, ih (by omega), hR.flatLen]
theorem flL_map {ts : List (List Nd)} {fe : Int} (h : ∀ t ∈ ts, Right t fe) : (flL (ts.map flatT)).length = (flL ts).length := by
  have := flPre_map h ts.length (Nat.le_refl _)
  unfold flPre at this
  rwa [List.take_length, List.take_of_length_le (by simp)] at this
/-- what a flat one tells of is right -/
theorem flat_right {g a : Gv} (h : GRight g) (hgt : g.ws.length = g.ts.length) (e1 : a.f = g.f) (e2 : a.way = g.way) (e3 : a.ws = g.ws) (e4 : a.trees = g.trees.map flatT) : GRight a := by
  have hl : a.ts.length = g.ts.length := by
    have := congrArg List.length e4
    rw [Gv.trees_len, List.length_map, Gv.trees_len] at this
    exact this
  refine ⟨by rw [e1]; exact h.f0, by rw [e1]; exact h.f8, by rw [e2]; exact h.way1, by rw [e2]; exact h.way3, by rw [hl]; exact h.pos, by rw [hl]; exact h.most, by rw [e3, hl]; exact h.wlen, by rw [e3]; exact h.weights, fun r hr => ?_⟩
  have hm : r.l ∈ a.trees := List.mem_map.2 ⟨r, hr, rfl⟩
  rw [e4] at hm
  obtain ⟨t, ht, hte⟩ := List.mem_map.1 hm
  obtain ⟨q, hq, rfl⟩ := List.mem_map.1 ht
  rw [← hte, e1]
  exact treeE_right (right_of (h.trees q hq)).flat
theorem flat_differ {g a : Gv} (h : GRight g) (ha : GRight a) (e1 : a.f = g.f) (e2 : a.way = g.way) (e3 : a.ws = g.ws) (e4 : a.trees = g.trees.map flatT) : grovesC g a = (0, 5) := by
  have hl : a.ts.length = g.ts.length := by
    have := congrArg List.length e4
    rw [Gv.trees_len, List.length_map, Gv.trees_len] at this
    exact this
  unfold grovesC
  rw [if_pos h.e0, if_pos ha.e0, if_pos e1.symm, if_pos e2.symm, if_pos hl.symm]
  have key : ∀ (m i : Nat), i + m ≤ g.ts.length → findD (diffAt g a) i m = (0, 5) := by
    intro m
    induction m with
    | zero => intro i _; rfl
    | succ m ih =>
      intro i hi
      have hp : diffAt g a i = false := by
        have hx : g.ts[i]? = some (g.ts[i]'(by omega)) := List.getElem?_eq_getElem (by omega)
        have hR := right_of (h.trees _ (List.mem_of_getElem? hx))
        obtain ⟨r, hr⟩ : ∃ r, a.ts[i]? = some r := ⟨_, List.getElem?_eq_getElem (by omega)⟩
        have h1 := Gv.trees_at hr
        rw [e4, List.getElem?_map, Gv.trees_at hx] at h1
        have h2 : flatT (g.ts[i]'(by omega)).l = r.l := by simpa using h1
        unfold diffAt trAt
        rw [hx, hr, e3]
        dsimp only
        have h3 : g.f = (g.f.toNat : Int) := by have := h.f0; omega
        rw [h3] at hR
        rw [← h2, pairsL_flat hR]
        simp
      rw [findD, if_neg (by simp [hp])]
      exact ih (i + 1) (by omega)
  exact key _ 0 (by omega)

/-- the contracts, of a grove that is right -/
theorem fnewG_any (g : Gv) (w : World) (h0 : g.e = 0) (hg : GReads w w.heap.size g) :
    Calls Tryd.prog 5 #[g.val] w fun e w' => ∃ gF, e = .returned (.tuple #[.pointer (some ⟨gF, 0, none⟩), .nilIface]) ∧ FlG w' gF g ∧ Below w.heap.size w w' :=
  (fnew_any g w hg).mono (fun e w' h => by
    rcases h with h | ⟨_, gF, h1, h2, _, h3⟩
    · exact absurd h0 h.1
    · exact ⟨gF, h1, ⟨h0, h2⟩, h3⟩)
theorem fgroveG_any (g : Gv) (gF : Nat) (w : World) (h : FlG w gF g) :
    Calls Tryd.prog 7 #[.pointer (some ⟨gF, 0, none⟩)] w fun e w' => ∃ a : Gv, e = .returned a.val ∧ a.f = g.f ∧ a.way = g.way ∧ a.ws = g.ws ∧ a.trees = g.trees.map flatT ∧ GReads w' w'.heap.size a ∧ Below w.heap.size w w' := by
  obtain ⟨hR, hpos, h12, hwl, _⟩ := h.all
  exact fgrove_any gF g.f g.way g.ws g.trees g.f w h.2 hR hpos h12 hwl
theorem wp_nameA {P : Program} {c : Code} {Q : Exit → Act → World → Prop} {a : Act} {W : World} (h : ∀ X, X = W → Code.wp P c Q a X) : Code.wp P c Q a W := h W rfl

set_option maxRecDepth 100000 in
set_option maxHeartbeats 8000000 in
theorem flatAgain_walk (g : Gv) (w : World) (he : ErrT w) (hg : GReads w w.heap.size g) :
    Calls Tryd.prog 3 #[g.val] w fun e w' => e = .returned (.bool true) ∧ Below w.heap.size w w' := by
  obtain ⟨W, hW, bx, hWs, hb0⟩ := gbox w g.f g.way g.Aw g.nw g.cw g.At g.nt g.ct
  have hnew := hide (fnew_any g W ((hg.below hb0).more (by omega)))
  have c0 := bx.cell 0
  have c1 := bx.cell 1
  have c2 := bx.cell 2
  have c3 := bx.cell 3
  simp at c0 c1 c2 c3
  by_cases h0 : g.e = 0
  case neg =>
    have hck := hide (fun (X : World) (hB : Below w.heap.size w X) => gcheck_any g X ((hg.below hB).more hB.size))
    have hn : Hid (Calls Tryd.prog 5 #[g.val] W fun e w' => e = .returned (.tuple #[.pointer none, errV g.e]) ∧ Below W.heap.size W w') := hide ((unhide hnew).mono (fun e w' h => by
      rcases h with h | h
      · exact h.2
      · exact absurd h.1 h0))
    have hv := errV_1 h0
    have HV := hide hv
    obtain ⟨E, hE⟩ : ∃ E, E = g.e := ⟨_, rfl⟩
    rw [← hE] at hn hck hv
    clear hE h0 hg hnew he HV
    obtain ⟨f, way, Aw, nw, cw, ws, At, nt, ct, ts⟩ := g
    simp only [Gv.val] at hn hck ⊢
    dsimp only at hW bx c0 c1 c2 c3
    rw [hv] at hn hck
    clear hv
    go_enter Tryd.func3, Tryd.ntmps3
    go_wp2_with fail
    rw [← hW]
    clear hW
    go_wp2_with fail
    refine (unhide hn).mono ?_
    rintro e w1 ⟨rfl, hb1⟩
    have bx1 := bx.below hb1 (by omega)
    have d0 := bx1.cell 0
    have d1 := bx1.cell 1
    have d2 := bx1.cell 2
    have d3 := bx1.cell 3
    simp at d0 d1 d2 d3
    have hB1 := hb0.trans (hb1.mono (by omega))
    clear c0 c1 c2 c3 hn bx bx1
    go_wp2_with fail
    refine (unhide hck w1 hB1).mono ?_
    rintro e w2 ⟨rfl, hb2⟩
    go_wp2_with fail
    go_ret
    exact ⟨rfl, hB1.trans (hb2.mono hB1.size)⟩
  have hG := groveE_right h0
  have cN := hide (fnewG_any g W h0 ((hg.below hb0).more (by omega)))
  have cR := hide (fun (a : Gv) (e1 : a.f = g.f) (e2 : a.way = g.way) (e3 : a.ws = g.ws) (e4 : a.trees = g.trees.map flatT) => flat_right hG hG.wlen e1 e2 e3 e4)
  have cD := hide (fun (a : Gv) (X : World) (hB : Below w.heap.size w X) (ha : GReads X X.heap.size a) (e1 : a.f = g.f) (e2 : a.way = g.way) (e3 : a.ws = g.ws) (e4 : a.trees = g.trees.map flatT) => show Calls Tryd.prog 9 #[g.val, a.val] X fun e w' => e = .returned (.tuple #[.int .i64 (0 : Nat), errV 5]) ∧ Below X.heap.size X w' from (groves_any g a X ((hg.below hB).more hB.size) ha).mono (fun e w' h => by
    obtain ⟨h1, h2⟩ := h
    rw [flat_differ hG (flat_right hG hG.wlen e1 e2 e3 e4) e1 e2 e3 e4] at h1
    exact ⟨h1, h2⟩))
  have cL := hide (fun (a : Gv) (e4 : a.trees = g.trees.map flatT) => show (flL a.trees).length = (flL g.trees).length by
    rw [e4]
    exact flL_map (fe := g.f) (fun t ht => by obtain ⟨r, hr, rfl⟩ := List.mem_map.1 ht; exact right_of (hG.trees r hr)))
  have cI := hide (fun (a b : Gv) (e4 : a.trees = g.trees.map flatT) (f4 : b.trees = a.trees.map flatT) => show b.trees = a.trees by
    rw [f4, e4, List.map_map]
    refine List.map_congr_left fun t ht => ?_
    obtain ⟨r, hr, rfl⟩ := List.mem_map.1 ht
    exact (right_of (hG.trees r hr)).flatTwice)
  have cE := hide (fun (X : World) (hB : Below w.heap.size w X) => error_any 5 5 X (he.below hB he.lt))
  have cG0 := hide (fun (gF : Nat) (X : World) (h : FlG X gF g) => fgroveG_any g gF X h)
  have cS0 := hide (fun (gF : Nat) (X : World) (h : FlG X gF g) => fsize_any gF g X h)
  obtain ⟨G, hGd⟩ : ∃ G, G = g := ⟨_, rfl⟩
  have hGv : Hid (G.val = g.val) := hide (by rw [hGd])
  rw [← hGd] at cN cR cD cL cI cG0 cS0
  rw [unhide hGv] at cN cD
  clear hG hg hnew h0 he hGd hGv
  obtain ⟨f, way, Aw, nw, cw, ws, At, nt, ct, ts⟩ := g
  simp only [Gv.val] at cN cD ⊢
  dsimp only at hW bx c0 c1 c2 c3
  go_enter Tryd.func3, Tryd.ntmps3
  go_wp2_with fail
  rw [← hW]
  clear hW
  go_wp2_with fail
  refine (unhide cN).mono ?_
  rintro e w1 ⟨gF, rfl, hF1, hb1⟩
  have bx1 := bx.below hb1 (by omega)
  have hB1 := hb0.trans (hb1.mono (by omega))
  have hz1 := hb1.size
  clear c0 c1 c2 c3 cN bx
  go_wp2_with fail
  refine (unhide cG0 gF w1 hF1).mono ?_
  rintro e w2 ⟨a, rfl, e1, e2, e3, e4, ha2, hb2⟩
  have bx2 := bx1.below hb2 (by omega)
  have hB2 := hB1.trans (hb2.mono (by omega))
  have hF2 := hF1.below hb2
  have hz2 := hb2.size
  have hI : Hid (∀ b : Gv, b.trees = a.trees.map flatT → b.trees = a.trees) := hide (fun b h => unhide cI a b e4 h)
  have hLn := hide (unhide cL a e4)
  have haE := hide (unhide cR a e1 e2 e3 e4).e0
  have hDi := hide (fun (X : World) (hB : Below w.heap.size w X) (h : GReads X X.heap.size a) => unhide cD a X hB h e1 e2 e3 e4)
  have cN2 := hide (fun (X : World) (h : GReads X X.heap.size a) => fnewG_any a X (unhide haE) h)
  have cG2 := hide (fun (gF : Nat) (X : World) (h : FlG X gF a) => fgroveG_any a gF X h)
  have cS2 := hide (fun (gF : Nat) (X : World) (h : FlG X gF a) => fsize_any gF a X h)
  have cSm := hide (fun (b : Gv) (X : World) (h : GReads X X.heap.size a) (hb : GReads X X.heap.size b) (k1 : b.f = a.f) (k2 : b.way = a.way) (k3 : b.ws = a.ws) (k4 : b.trees = a.trees) => sameGrove_any a b X h hb k1 k2 k3 k4)
  have hag := hide ha2
  clear hF1 bx1 cG0 cR cD cL cI e1 e2 e3 e4 ha2
  obtain ⟨Ga, hGa⟩ : ∃ Ga, Ga = a := ⟨_, rfl⟩
  have hGav : Hid (Ga.val = a.val) := hide (by rw [hGa])
  rw [← hGa] at hI hLn cN2 cG2 cS2 cSm hag
  rw [unhide hGav] at cN2 cSm
  have hDi2 := hide (fun (X : World) (hB : Below w.heap.size w X) (h : GReads X X.heap.size Ga) => unhide hDi X hB (by rw [hGa] at h; exact h))
  clear hDi
  clear hGa hGav haE
  obtain ⟨fa, waya, Aa, nwa, cwa, wsa, Ata, nta, cta, tsa⟩ := a
  simp only [Gv.val] at hDi2 cN2 cSm ⊢
  go_upto_region 5 with (fail)
  refine wp_nameA fun X2 hX2 => ?_
  have bq2 : Blk X2 w2.heap.size 25 #[.int .i64 fa, .int .i64 waya, .slice Aa nwa cwa, .slice Ata nta cta] := by rw [hX2]; exact Blk.new _ _ _
  have bb2 : Below w2.heap.size w2 X2 := by rw [hX2]; exact (Below.refl _ _).alloc (Nat.le_refl _) _
  clear hX2
  have hz3 := bb2.size
  have hq2 := bq2.lt
  have hag2 := ((unhide hag).below bb2).more hz3
  have hF3 := hF2.below bb2
  have bx3 := bx2.below bb2 (by omega)
  have hB3 := hB2.trans (bb2.mono (by omega))
  have d0 := bq2.cell 0
  have d1 := bq2.cell 1
  have d2 := bq2.cell 2
  have d3 := bq2.cell 3
  simp at d0 d1 d2 d3
  clear hag hF2 bx2 hB2 hB1 hb0 hb1 hb2
  go_wp2_with fail
  refine (unhide cN2 X2 hag2).mono ?_
  rintro e w3 ⟨gH, rfl, hH3, hb3⟩
  have hz4 := hb3.size
  have bq3 := bq2.below hb3 hq2
  have bx4 := bx3.below hb3 (by omega)
  have hF4 := hF3.below hb3
  have hB4 := hB3.trans (hb3.mono (by omega))
  have hag3 := (hag2.below hb3).more hz4
  clear d0 d1 d2 d3 bq2 bx3 hF3 hB3 hag2 cN2
  go_wp2_with fail
  refine (unhide cG2 gH w3 hH3).mono ?_
  rintro e w4 ⟨b, rfl, k1, k2, k3, k4, hb4r, hb4⟩
  have hz5 := hb4.size
  have bq4 := bq3.below hb4 (by omega)
  have bx5 := bx4.below hb4 (by omega)
  have hF5 := hF4.below hb4
  have hH5 := hH3.below hb4
  have hB5 := hB4.trans (hb4.mono (by omega))
  have hag4 := (hag3.below hb4).more hz5
  have k5 := unhide hI b k4
  have cSm2 := hide (fun (X : World) (h : GReads X X.heap.size Ga) (hb : GReads X X.heap.size b) => unhide cSm b X h hb k1 k2 k3 k5)
  have hbg := hide hb4r
  clear bq3 bx4 hF4 hH3 hB4 hag3 k1 k2 k3 k4 k5 cSm hI hb4r cG2
  obtain ⟨Gb, hGb⟩ : ∃ Gb, Gb = b := ⟨_, rfl⟩
  have cSm3 := hide (fun (X : World) (h : GReads X X.heap.size Ga) (hb : GReads X X.heap.size Gb) => unhide cSm2 X h (by rw [hGb] at hb; exact hb))
  rw [← hGb] at hbg
  clear hGb cSm2
  obtain ⟨fb, wayb, Ab, nwb, cwb, wsb, Atb, ntb, ctb, tsb⟩ := b
  simp only [Gv.val] at cSm3 ⊢
  go_upto_region 9 with (fail)
  refine wp_nameA fun X4 hX4 => ?_
  have bb4 : Below w4.heap.size w4 X4 := by rw [hX4]; exact (Below.refl _ _).alloc (Nat.le_refl _) _
  have br4 : Blk X4 w4.heap.size 25 #[.int .i64 fb, .int .i64 wayb, .slice Ab nwb cwb, .slice Atb ntb ctb] := by rw [hX4]; exact Blk.new _ _ _
  clear hX4
  have hz6 := bb4.size
  have bq5 := bq4.below bb4 (by omega)
  have bx6 := bx5.below bb4 (by omega)
  have hF6 := hF5.below bb4
  have hH6 := hH5.below bb4
  have hB6 := hB5.trans (bb4.mono (by omega))
  have hag5 := (hag4.below bb4).more hz6
  have hbg5 := ((unhide hbg).below bb4).more hz6
  have d0 := bq5.cell 0
  have d1 := bq5.cell 1
  have d2 := bq5.cell 2
  have d3 := bq5.cell 3
  have r0 := br4.cell 0
  have r1 := br4.cell 1
  have r2 := br4.cell 2
  have r3 := br4.cell 3
  simp at d0 d1 d2 d3 r0 r1 r2 r3
  clear bq4 bx5 hF5 hH5 hB5 hag4 hbg br4
  go_wp2_with fail
  refine (unhide cSm3 X4 hag5 hbg5).mono ?_
  rintro e w5 ⟨rfl, hb5⟩
  have hz7 := hb5.size
  have bq6 := bq5.below hb5 (by omega)
  have bx7 := bx6.below hb5 (by omega)
  have hF7 := hF6.below hb5
  have hH7 := hH6.below hb5
  have hB7 := hB6.trans (hb5.mono (by omega))
  have hag6 := (hag5.below hb5).more hz7
  clear d0 d1 d2 d3 r0 r1 r2 r3 bq5 bx6 hF6 hH6 hB6 hag5 hbg5 cSm3
  have d0 := bq6.cell 0
  have d1 := bq6.cell 1
  have d2 := bq6.cell 2
  have d3 := bq6.cell 3
  have r0 := bx7.cell 0
  have r1 := bx7.cell 1
  have r2 := bx7.cell 2
  have r3 := bx7.cell 3
  simp at d0 d1 d2 d3 r0 r1 r2 r3
  go_wp2_with fail
  refine (unhide hDi2 w5 hB7 hag6).mono ?_
  rintro e w6 ⟨rfl, hb6⟩
  have hz8 := hb6.size
  have hF8 := hF7.below hb6
  have hH8 := hH7.below hb6
  have hB8 := hB7.trans (hb6.mono (by omega))
  clear d0 d1 d2 d3 r0 r1 r2 r3 bq6 bx7 hF7 hH7 hB7 hag6 hDi2
  go_wp2_with fail
  refine (unhide cE w6 hB8).mono ?_
  rintro e w7 ⟨rfl, hb7⟩
  have hF9 := hF8.below hb7
  have hH9 := hH8.below hb7
  have hB9 := hB8.trans (hb7.mono (by omega))
  rw [show ((5 : Int) == 5) = true from rfl]
  obtain ⟨N, hN⟩ : ∃ N, N = (flL G.trees).length := ⟨_, rfl⟩
  have s1 := hide (unhide cS2 gH w7 hH9)
  have s2 := hide (unhide cS0 gF w7 hF9)
  rw [unhide hLn, ← hN] at s1
  rw [← hN] at s2
  clear hF8 hH8 hB8 cE cS2 cS0 hN hLn hF9 hH9
  go_wp2_with fail
  refine (unhide s1).mono ?_
  rintro e w8 ⟨rfl, rfl⟩
  go_wp2_with fail
  refine (unhide s2).mono ?_
  rintro e w8 ⟨rfl, rfl⟩
  go_wp2_with fail
  go_ret
  exact ⟨by simp, hB9⟩
end Go.Proofs.YtcneacooedefjaaDoor
