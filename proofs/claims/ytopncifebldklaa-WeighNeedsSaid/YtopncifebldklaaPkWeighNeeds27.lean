/- Part 27 of what LawWeighNeeds needs: Without. Conditions: as each lemma names. -/
import Derived.Test.YtopncifebldklaaPkWeighNeeds21
import Derived.Test.YtopncifebldklaaPkWeighNeeds26
/- Package weigh: Without. Conditions: a grove that reads as data. -/
namespace Go.Proofs.Ytopncifebldklaa
set_option linter.unusedVariables false
set_option linter.unusedSimpArgs false
open Go.RowKit

def woE (g : Gv) (fe : Int) : Int := if g.e = 0 then (if fe < 0 ∨ g.f ≤ fe then 1 else 0) else g.e
def WGrovePost (g : Gv) (fe : Int) (w : World) (e : Ending) (w' : World) : Prop := ∃ g' : Gv, e = .returned (.tuple #[g'.val, errV (woE g fe)]) ∧ GReads w' w'.heap.size g' ∧ (woE g fe = 0 → g'.f = g.f ∧ g'.way = g.way ∧ g'.ws = g.ws ∧ g'.trees = g.trees.map (woV fe)) ∧
  (woE g fe ≠ 0 → g'.f = 0 ∧ g'.way = 0 ∧ g'.ws = [] ∧ g'.trees = []) ∧ Below w.heap.size w w'
theorem woE_0 {g : Gv} {fe : Int} (h : woE g fe = 0) : g.e = 0 ∧ 0 ≤ fe ∧ fe < g.f := by
  unfold woE at h
  by_cases h0 : g.e = 0
  · rw [if_pos h0] at h
    by_cases h1 : fe < 0 ∨ g.f ≤ fe
    · rw [if_pos h1] at h; cases h
    · exact ⟨h0, by omega, by omega⟩
  · rw [if_neg h0] at h; exact absurd h h0

set_option maxRecDepth 100000 in
set_option maxHeartbeats 8000000 in
theorem withoutG_any (g : Gv) (fe : Int) (w : World) (hg : GReads w w.heap.size g) :
    Calls Try.prog 7 #[g.val, .int .i64 fe] w (WGrovePost g fe w) := by
  have cCk := hide (fun (W : World) (hB : Below w.heap.size w W) => gcheck_any g W ((hg.below hB).more hB.size))
  have HNW := hide hg.nw
  by_cases h0 : woE g fe = 0
  · obtain ⟨hge, hfe0, hfe1⟩ := woE_0 h0
    have hG := groveE_right hge
    have hnt : g.nt ≤ 12 := by have e1 := hg.ts.len; have e2 := hG.most; omega
    have hnw : g.nw ≤ 12 := by have e1 := hg.ts.len; have e2 := hg.ws.len; have e3 := hG.wlen; have e4 := hG.most; omega
    have hTR : Hid (∀ t ∈ g.trees, Right t g.f) := hide (fun t ht => by
      obtain ⟨r, hr, rfl⟩ := List.mem_map.1 ht
      exact right_of (hG.trees r hr))
    have hts : ∀ r ∈ g.ts, r.n ≤ 100000 := fun r hr => by
      have := (unhide hTR) r.l (List.mem_map.2 ⟨r, hr, rfl⟩)
      have h2 := (hg.ts.2 r hr).reads.len
      have := this.most
      omega
    obtain ⟨n, hn⟩ : ∃ n : Nat, g.f = n := ⟨g.f.toNat, by
      obtain ⟨t, ht⟩ : ∃ t, t ∈ g.ts := ⟨g.ts[0]'hG.pos, List.getElem_mem _⟩
      have := (right_of (hG.trees t ht)).fe0
      omega⟩
    have hn8 : n ≤ 8 := by
      obtain ⟨t, ht⟩ : ∃ t, t ∈ g.ts := ⟨g.ts[0]'hG.pos, List.getElem_mem _⟩
      have := (right_of (hG.trees t ht)).fe8
      omega
    have cCl := hide (fun (W : World) (hB : Below w.heap.size w W) => gclone_any g W ((hg.below hB).more hB.size) (by omega) (by omega) hts)
    have HPost : Hid (∀ (g' : Gv) (W : World), GReads W W.heap.size g' → g'.f = g.f → g'.way = g.way → g'.ws = g.ws → g'.trees = (g.trees.map (woV fe)) → Below w.heap.size w W → WGrovePost g fe w (.returned (.tuple #[g'.val, .nilIface])) W) := hide (fun g' W h1 h2 h3 h4 h5 h6 => ⟨g', by rw [errV_0 h0], h1, fun _ => ⟨h2, h3, h4, h5⟩, fun h => absurd h0 h, h6⟩)
    have HZ := hide hge
    have e1 : decide (fe < 0) = false := decide_eq_false (by omega)
    have e2 : decide ((n : Int) ≤ fe) = false := decide_eq_false (by omega)
    obtain ⟨G, hGd⟩ : ∃ G, G = g := ⟨_, rfl⟩
    rw [← hGd] at cCk cCl hTR HPost HZ
    rw [show WGrovePost g fe w = WGrovePost G fe w by rw [hGd]]
    have hGl : Hid (G.trees.length = g.nt) := hide (by rw [hGd, Gv.trees_len, hg.ts.len])
    have hGf : G.f = n := by rw [hGd, hn]
    have hGw : G.way = g.way := by rw [hGd]
    have hGg : Hid (G.val = g.val) := hide (by rw [hGd])
    unfold ClonePost at cCl
    rw [unhide hGg] at cCk cCl
    rw [hGf] at hTR cCl HPost
    rw [hGw] at cCl HPost
    obtain ⟨f, way, Aw, nw, cw, ws, At, nt, ct, ts⟩ := g
    dsimp only at hn hnt hnw hGw hGl
    subst hn
    simp only [Gv.val] at cCk cCl ⊢
    clear hG hts h0 hge hfe0 hfe1 hGd hGf hGw hg hGg HNW
    obtain ⟨W, hW⟩ : ∃ W, W = ((w.alloc (.cells #[.int .i64 n, .int .i64 way, .slice Aw nw cw, .slice At nt ct] 25)).alloc (.cells #[.int .i64 0, .int .i64 0, .slice none 0 0, .slice none 0 0] 25)) := ⟨_, rfl⟩
    have b1 : Blk W w.heap.size 25 #[.int .i64 n, .int .i64 way, .slice Aw nw cw, .slice At nt ct] := by rw [hW]; exact (Blk.new _ _ _).alloc _
    have b2 : Blk W (w.heap.size + 1) 25 #[.int .i64 0, .int .i64 0, .slice none 0 0, .slice none 0 0] := by
      rw [hW]
      have := Blk.new (w.alloc (.cells #[.int .i64 n, .int .i64 way, .slice Aw nw cw, .slice At nt ct] 25)) 25 #[.int .i64 0, .int .i64 0, .slice none 0 0, .slice none 0 0]
      rwa [World.size_alloc] at this
    have hWs : W.heap.size = w.heap.size + 2 := by rw [hW]; simp
    have hb0 : Below w.heap.size w W := by rw [hW]; exact ((Below.refl _ _).alloc (Nat.le_refl _) _).alloc (by simp) _
    go_enter Try.func7, Try.ntmps7
    go_wp2_with fail
    rw [← hW]
    clear hW
    refine (unhide cCk W hb0).mono ?_
    rintro e w1 ⟨rfl, hb1⟩
    rw [unhide HZ, errV_0 rfl]
    have b11 := b1.below hb1 (by omega)
    have b21 := b2.below hb1 (by omega)
    have hB1 := hb0.trans (hb1.mono (by omega))
    have hz1 : w.heap.size + 2 ≤ w1.heap.size := by have := hb1.size; omega
    have x0 := b11.cell 0
    have x1 := b11.cell 1
    have x2 := b11.cell 2
    have x3 := b11.cell 3
    simp at x0 x1 x2 x3
    clear cCk b1 b2 hWs hb0 hb1
    go_wp2_with fail
    refine (unhide cCl w1 hB1).mono ?_
    rintro e w2 ⟨g', rfl, e1, e2, e3, e4, hown, hb2⟩
    have b12 := b11.below hb2 (by omega)
    have b22 := b21.below hb2 (by omega)
    have hB2 := hB1.trans (hb2.mono (by omega))
    have hz2 : w.heap.size + 2 ≤ w2.heap.size := by have := hb2.size; omega
    have HW3 := hide e3
    have HT4 := hide e4
    obtain ⟨f', way', A1, nw', d1, ws', A3, nt', d3, ts'⟩ := g'
    dsimp only at e1 e2
    subst e1
    subst e2
    have hlt' : ts'.length = nt' := by have := hown.ts.1; simpa using this
    have hnt' : nt' = nt := by
      have h1 := congrArg List.length (unhide HT4)
      rw [unhide hGl, Gv.trees_len] at h1
      have h2 : ts'.length = nt := h1
      omega
    subst hnt'
    have ho1 : w2.ownsRow w1.heap.size 3 1 (.slice A1 nw' d1) nw' (ws'.map (Value.int .i64)) := hown.ws
    have ho3 : w2.ownsRow w1.heap.size 26 1 (.slice A3 nt' d3) nt' (ts'.map Tr.val) := hown.ts
    have hea := hown.each
    have y0 := b12.cell 0
    have y1 := b12.cell 1
    have y2 := b12.cell 2
    have y3 := b12.cell 3
    have g0 := b12.frozen 0
    have g1 := b12.frozen 1
    have g2 := b12.frozen 2
    have g3 := b12.frozen 3
    simp at y0 y1 y2 y3
    have hq1 : ∀ o, ∀ q, (Value.slice A1 nw' d1).ownBlock = some q → q ≠ (⟨w.heap.size, o, none⟩ : Addr).block := fun o q hq => by have := own_block_ge ho1 q hq; show q ≠ w.heap.size; omega
    have hq3 : ∀ o, ∀ q, (Value.slice A3 nt' d3).ownBlock = some q → q ≠ (⟨w.heap.size, o, none⟩ : Addr).block := fun o q hq => by have := own_block_ge ho3 q hq; show q ≠ w.heap.size; omega
    simp only [Gv.val]
    clear b11 b21 x0 x1 x2 x3 hB1 cCl hown hb2
    dsimp only at hea
    go_upto_region 7 with (fail)
    refine wp_nameG fun W4 hW4 => ?_
    have bF := (((b12.set_ 0 (.int .i64 n)).set_ 1 (.int .i64 way')).set_ 2 (.slice A1 nw' d1)).set_ 3 (.slice A3 nt' d3)
    have b24 := (((b22.far (p := ⟨w.heap.size, 0, none⟩) (by show w.heap.size + 1 ≠ w.heap.size; omega) (.int .i64 n)).far (p := ⟨w.heap.size, 1, none⟩) (by show w.heap.size + 1 ≠ w.heap.size; omega) (.int .i64 way')).far (p := ⟨w.heap.size, 2, none⟩) (by show w.heap.size + 1 ≠ w.heap.size; omega) (.slice A1 nw' d1)).far (p := ⟨w.heap.size, 3, none⟩) (by show w.heap.size + 1 ≠ w.heap.size; omega) (.slice A3 nt' d3)
    have o1 := own_far (own_far (own_far (own_far ho1 (hq1 0) (.int .i64 n)) (hq1 1) (.int .i64 way')) (hq1 2) (.slice A1 nw' d1)) (hq1 3) (.slice A3 nt' d3)
    have o3 := own_far (own_far (own_far (own_far ho3 (hq3 0) (.int .i64 n)) (hq3 1) (.int .i64 way')) (hq3 2) (.slice A1 nw' d1)) (hq3 3) (.slice A3 nt' d3)
    have hB4 := (((hB2.setCell (p := ⟨w.heap.size, 0, none⟩) (Nat.le_refl _) (.int .i64 n)).setCell (p := ⟨w.heap.size, 1, none⟩) (Nat.le_refl _) (.int .i64 way')).setCell (p := ⟨w.heap.size, 2, none⟩) (Nat.le_refl _) (.slice A1 nw' d1)).setCell (p := ⟨w.heap.size, 3, none⟩) (Nat.le_refl _) (.slice A3 nt' d3)
    have hz4 : W4.heap.size = w2.heap.size := by rw [hW4]; simp [World.setCell]
    have hR0 : ∀ (i : Nat) r, ts'[i]? = some r → TrOk W4 W4.heap.size r ∧ (0 < r.n → ∀ a, r.A = some a → (Value.slice A3 nt' d3).ownBlock ≠ some a.block ∧ (Value.slice A1 nw' d1).ownBlock ≠ some a.block ∧ w.heap.size + 2 ≤ a.block) := fun i r hi => by
      obtain ⟨h1, h2⟩ := hea r (List.mem_of_getElem? hi)
      have hne : ∀ o, 0 < r.n → ∀ a, r.A = some a → a.block ≠ (⟨w.heap.size, o, none⟩ : Addr).block := fun o hn a ha e => by
        have := (h2 hn a ha).2.2
        have e' : a.block = w.heap.size := e
        omega
      refine ⟨⟨?_, h1.len, h1.nil⟩, fun hn a ha => ⟨(h2 hn a ha).1, (h2 hn a ha).2.1, by have := (h2 hn a ha).2.2; omega⟩⟩
      rw [hz4, hW4]
      exact Reads.far (Reads.far (Reads.far (Reads.far h1.reads (hne 0) _) (hne 1) _) (hne 2) _) (hne 3) _
    rw [← hW4] at bF b24 o1 o3 hB4
    simp at bF
    have HR0 := hide hR0
    have HWS := hide (show ws' = G.ws from unhide HW3)
    have HTS : Hid (ts'.map Tr.l = (G.trees.take 0).map (woV fe) ++ G.trees.drop 0) := hide (by simpa [Gv.trees] using unhide HT4)
    have hz24 : w.heap.size + 2 ≤ W4.heap.size := by omega
    have hn1' : ∀ q, (Value.slice A1 nw' d1).ownBlock = some q → w.heap.size + 2 ≤ q ∧ (Value.slice A3 nt' d3).ownBlock ≠ some q := fun q hq => ⟨by have := own_block_ge ho1 q hq; omega, by
      rcases ho1.2 with ⟨e, _⟩ | ⟨gq, cap, cur, e, _, hblk, _⟩
      · rw [e] at hq; simp [Value.ownBlock] at hq
      · rw [e] at hq
        simp [Value.ownBlock] at hq
        subst hq
        exact own_blk_ne ho3 (g := gq) (t := 3) (cs := cur) hblk (by decide)⟩
    have hz1b : w.heap.size + 2 ≤ w1.heap.size := hz1
    have o1' := own_low o1 (show w.heap.size + 2 ≤ w1.heap.size by omega)
    have o3' := own_low o3 (show w.heap.size + 2 ≤ w1.heap.size by omega)
    clear hW4 b12 b22 ho1 ho3 hB2 hea y0 y1 y2 y3 g0 g1 g2 g3 hq1 hq3 hz2 hz4 hR0 HW3 HT4 hlt' o1 o3 hz1 hz1b hz24
    have k3 := bF.cell 3
    simp at k3
    have HN1 := hide hn1'
    clear hn1'
    go_wp2_with fail
    clear k3
    go_loopw [30] (fun i wr => ∃ (k : Nat) (ts'' : List Tr), k ≤ nt' ∧ i = .int .i64 k ∧ Hid (ts''.map Tr.l = (G.trees.take k).map (woV fe) ++ G.trees.drop k) ∧
        Hid (∀ (i : Nat) r, ts''[i]? = some r → TrOk wr wr.heap.size r ∧ (0 < r.n → ∀ a, r.A = some a → (Value.slice A3 nt' d3).ownBlock ≠ some a.block ∧ (Value.slice A1 nw' d1).ownBlock ≠ some a.block ∧ w.heap.size + 2 ≤ a.block)) ∧
        wr.ownsRow (w.heap.size + 2) 26 1 (.slice A3 nt' d3) nt' (ts''.map Tr.val) ∧ wr.ownsRow (w.heap.size + 2) 3 1 (.slice A1 nw' d1) nw' (ws'.map (Value.int .i64)) ∧
        Blk wr (w.heap.size + 1) 25 #[.int .i64 0, .int .i64 0, .slice none 0 0, .slice none 0 0] ∧ Blk wr w.heap.size 25 #[.int .i64 n, .int .i64 way', .slice A1 nw' d1, .slice A3 nt' d3] ∧ w.heap.size + 2 ≤ wr.heap.size ∧ Below w.heap.size w wr) (fun i _ => nt' - (intOf i).toNat)
    case atStart => exact ⟨0, ts', Nat.zero_le _, rfl, HTS, HR0, o3', o1', b24, bF, by have := bF.lt; have := b24.lt; omega, hB4⟩
    case round =>
      clear o3' o1' b24 bF hB4 HTS HR0
      obtain ⟨k, ts'', hk, rfl, HL, HR, ho4, ho5, b24, b14, hz, hbel⟩ := hrel
      have hsz := hbel.size
      by_cases hlk : k < nt'
      · obtain ⟨g, cap, hv, hgb, hgl⟩ := ho4.form (by omega)
        cases hv
        have hl' : ts''.length = nt' := by have := ho4.1; simpa using this
        have hr' : ts''[k]? = some ts''[k] := List.getElem?_eq_getElem (by omega)
        obtain ⟨r, hre⟩ : ∃ r, r = ts''[k] := ⟨_, rfl⟩
        rw [← hre] at hr'
        have cg := ho4.cellAt k (by omega)
        have fg := ho4.frozenAt k
        rw [List.getElem?_map, hr'] at cg
        obtain ⟨hok, hfar⟩ := unhide HR k r hr'
        have hTk : G.trees[k]? = some r.l := by
          have h1 := congrArg (fun l => l[k]?) (unhide HL)
          have hkl : ((G.trees.take k).map (woV fe)).length = k := by rw [List.length_map, List.length_take, unhide hGl]; omega
          rw [List.getElem?_map, hr', List.getElem?_append_right (by omega), hkl, Nat.sub_self, List.getElem?_drop, Nat.add_zero] at h1
          exact h1.symm
        have hRk := unhide hTR r.l (List.mem_of_getElem? hTk)
        have hsz2 : (kwo fe (kTree r.l)).size < 2048 := Nat.lt_of_le_of_lt (kwo_less _ _).1 hRk.ksize
        have HM := hide hr'
        have HTK := hide hTk
        obtain ⟨rA, rn, rc, rl⟩ := r
        simp only [Option.map_some, Tr.val] at cg
        dsimp only at hTk hRk hsz2 hfar HTK
        have hrr := hok.reads
        have hrlen := hok.len
        dsimp only at hrr hrlen
        have hln := hrr.len
        have HO : Hid (Calls Try.prog 23 #[.slice rA rn rc, .int .i64 0] wr.drew fun e w' => ∃ g, e = .returned (.pointer (some ⟨g, 0, none⟩)) ∧ KReads w' (Span2 wr.drew.heap.size w'.heap.size) (kTree rl) g ∧ Below wr.drew.heap.size wr.drew w') := hide (of_any rA rn rc wr.heap.size rl hrlen hRk.behind rl.length 0 wr.drew (by omega) (by have := hRk.pos; omega) (Reads.drew hrr) (by simp))
        have HPr := hide (fun (gk : Nat) (W : World) (h1 : KReads W (Till W.heap.size) (kTree rl) gk) => without_any fe (kTree rl) gk W h1)
        obtain ⟨PV, hPV⟩ : ∃ PV, PV = woV fe rl := ⟨_, rfl⟩
        have hPVl : PV.length < 2048 := by rw [hPV]; unfold woV; rw [layK_len]; exact hsz2
        have HLy : Hid (∀ (gc : Nat) (W : World), KReads W (Till W.heap.size) (kwo fe (kTree rl)) gc → Calls Try.prog 24 #[.pointer (some ⟨gc, 0, none⟩), .slice none 0 0] W fun e w' => ∃ v', e = .returned v' ∧ NOwn w' W.heap.size v' PV ∧ Below W.heap.size W w') := hide (fun gc W h => by
          have := lay_any _ gc [] (.slice none 0 0) W.heap.size W h (NOwn.nil_ _ _) (Nat.le_refl _) (by simp; omega)
          rw [List.nil_append, List.length_nil] at this
          rw [hPV]
          exact this)
        have HPV := hide hPV
        have HFR := hide hfar
        have c13 := b14.cell 3
        have c10 := b14.cell 0
        simp at c13 c10
        clear hPV hTk hRk hsz2 hr' hre hrr hrlen hln hl' hok hfar
        go_wp2_with fail
        go_region_held3 (fun w' => w'.cell? ⟨w.heap.size, 3, none⟩ = some (.slice (some ⟨g, 0, none⟩) nt' d3) ∧ w'.cell? ⟨w.heap.size, 0, none⟩ = some (.int .i64 n))
          (first | go_keep | exact ⟨(unhide hkkA 3).trans c13, (unhide hkkA 0).trans c10⟩ | exact ⟨(unhide hkkC 3).trans c13, (unhide hkkC 0).trans c10⟩ | exact ⟨(unhide hkkD 3).trans c13, (unhide hkkD 0).trans c10⟩ | exact ⟨(World.cell?_setCell_other _ _ _ _ (fun e => by injection e; omega)).trans ((unhide hkkD 3).trans c13), (World.cell?_setCell_other _ _ _ _ (fun e => by injection e; omega)).trans ((unhide hkkD 0).trans c10)⟩)
          (first
            | (go_at_call 23
               (with_reducible refine (unhide HO).mono ?_)
               rintro e wa ⟨gk, rfl, hka, hba⟩
               have hba' : Below wr.heap.size wr wa := ⟨hba.os, hba.tape, hba.output, hba.size, hba.block⟩
               have hsa := hba'.size
               have hkkA : Hid (∀ o, wa.cell? ⟨w.heap.size, o, none⟩ = wr.cell? ⟨w.heap.size, o, none⟩) := hide (fun o => hba'.cell (p := ⟨w.heap.size, o, none⟩) (by show w.heap.size < wr.heap.size; omega))
               have hKa : Hid (KReads wa (Till wa.heap.size) (kTree rl) gk) := hide (KReads.of_span hka))
            | (go_at_call 22
               (with_reducible refine (unhide HPr gk wa (unhide hKa)).mono ?_)
               rintro e wc ⟨gc, rfl, hKc, hbc⟩
               have hbc' := hba'.trans (hbc.mono hsa)
               have hsc := hbc'.size
               have hkkC : Hid (∀ o, wc.cell? ⟨w.heap.size, o, none⟩ = wr.cell? ⟨w.heap.size, o, none⟩) := hide (fun o => hbc'.cell (p := ⟨w.heap.size, o, none⟩) (by show w.heap.size < wr.heap.size; omega))
               have hKC := hide hKc)
            | (go_at_call 24
               (with_reducible refine (unhide HLy gc wc (unhide hKC)).mono ?_)
               rintro e wd ⟨vd, rfl, hod, hbd⟩
               obtain ⟨Ad, dd, hvd, hrd, hdd⟩ := hod.slice
               subst hvd
               have hbd' := hbc'.trans (hbd.mono hsc)
               have hsd := hbd'.size
               have hkkD : Hid (∀ o, wd.cell? ⟨w.heap.size, o, none⟩ = wr.cell? ⟨w.heap.size, o, none⟩) := hide (fun o => hbd'.cell (p := ⟨w.heap.size, o, none⟩) (by show w.heap.size < wr.heap.size; omega))
               have HOD := hide hod
               have cgd : wd.cell? ⟨g, k, none⟩ = some (.slice rA rn rc) := (hbd'.cell (p := ⟨g, k, none⟩) hgl).trans cg
               have fgd : wd.frozen? ⟨g, k, none⟩ = false := (hbd'.frozen (p := ⟨g, k, none⟩) hgl).trans fg))
        have hzd : w.heap.size + 2 ≤ wd.heap.size := by omega
        have ho4c := own_below ho4 hbd'
        have ho5c := own_below ho5 hbd'
        obtain ⟨hst, hgr⟩ := ho4c.stored k (.slice Ad PV.length dd)
        have hbs2 : Below w.heap.size wd (wd.setCell ⟨g, k, none⟩ (.slice Ad PV.length dd)) := (Below.refl _ _).setCell (p := ⟨g, k, none⟩) (by show w.heap.size ≤ g; omega) _
        have ho6 := own_far ho5c (p := ⟨g, k, none⟩) (fun q hq e => (unhide HN1 q hq).2 (by rw [e]; rfl)) (.slice Ad PV.length dd)
        have bb1 := (b14.below hbd' (by omega)).far (p := ⟨g, k, none⟩) (by show w.heap.size ≠ g; omega) (.slice Ad PV.length dd)
        have bb2 := (b24.below hbd' (by omega)).far (p := ⟨g, k, none⟩) (by show w.heap.size + 1 ≠ g; omega) (.slice Ad PV.length dd)
        have hodr : wd.ownsRow wc.heap.size 29 6 (.slice Ad PV.length dd) PV.length (PV.flatMap Nd.cells) := unhide HOD
        have hown7 := own_far hodr (p := ⟨g, k, none⟩) (fun q hq e => by have := own_block_ge hodr q hq; simp at e; omega) (.slice Ad PV.length dd)
        have hzs : (wd.setCell ⟨g, k, none⟩ (.slice Ad PV.length dd)).heap.size = wd.heap.size := by simp [World.setCell]
        have hR2 : Hid (∀ (i : Nat) r, (ts''.set k ⟨Ad, PV.length, dd, PV⟩)[i]? = some r → TrOk (wd.setCell ⟨g, k, none⟩ (.slice Ad PV.length dd)) (wd.setCell ⟨g, k, none⟩ (.slice Ad PV.length dd)).heap.size r ∧ (0 < r.n → ∀ a, r.A = some a → (Value.slice (some ⟨g, 0, none⟩) nt' d3).ownBlock ≠ some a.block ∧ (Value.slice A1 nw' d1).ownBlock ≠ some a.block ∧ w.heap.size + 2 ≤ a.block)) := hide (fun i r hr => by
          by_cases hik : k = i
          · subst hik
            rw [List.getElem?_set_self (List.getElem?_eq_some_iff.1 (unhide HM)).1] at hr
            injection hr with hr
            subst hr
            refine ⟨⟨?_, own_len hown7, fun e => ?_⟩, fun hn a ha => ?_⟩
            · exact Reads.of_own hown7
            · dsimp only at e; rw [e] at hown7; exact (own_nil hown7).1
            · dsimp only at ha
              have := own_block_ge hodr a.block (by rw [ha]; rfl)
              have h1 := fun q hq => (ho5.lt q hq).2
              refine ⟨fun e => ?_, fun e => ?_, by omega⟩
              · simp [Value.ownBlock] at e
                omega
              · have := h1 _ e
                omega
          · rw [List.getElem?_set_ne hik] at hr
            obtain ⟨h1, h2⟩ := unhide HR i r hr
            have h3 : TrOk wd wd.heap.size r := (h1.below hbd').more hsd
            refine ⟨⟨?_, h3.len, h3.nil⟩, fun hn a ha => ⟨(h2 hn a ha).1, (h2 hn a ha).2.1, (h2 hn a ha).2.2⟩⟩
            rw [hzs]
            exact Reads.far h3.reads (fun hn a ha e => (h2 hn a ha).1 (by rw [e]; rfl)) _)
        have hL2 : Hid ((ts''.set k ⟨Ad, PV.length, dd, PV⟩).map Tr.l = (G.trees.take (k + 1)).map (woV fe) ++ G.trees.drop (k + 1)) := hide (by
          rw [List.map_set, unhide HL, unhide HPV]
          exact pruneTake (woV fe) G.trees (unhide HTK))
        have hst2 : (wd.setCell ⟨g, k, none⟩ (.slice Ad PV.length dd)).ownsRow (w.heap.size + 2) 26 1 (.slice (some ⟨g, 0, none⟩) nt' d3) nt' ((ts''.set k ⟨Ad, PV.length, dd, PV⟩).map Tr.val) := by
          rw [List.map_set]; exact hst
        have hbel2 := (hbel.trans (hbd'.mono hsz)).trans hbs2
        have hz6 : w.heap.size + 2 ≤ (wd.setCell ⟨g, k, none⟩ (.slice Ad PV.length dd)).heap.size := by rw [hzs]; exact hzd
        clear hst hgr ho4c ho5c hbs2 hodr hown7 hzs hzd cgd fgd HR ho4 ho5 b24 b14 c13 c10 cg fg HO HPr HLy HFR hka hba hba' hsa hkkA hKa hKc hbc hbc' hsc hkkC hKC hbd hrd hdd hod hbd' hsd hkkD HOD hgl hz hbel hsz HM HTK HPV HL
        generalize wd.setCell ⟨g, k, none⟩ (.slice Ad PV.length dd) = W6 at *
        go_wp2_with fail
        go_roundw
        case rel => exact ⟨k + 1, _, by omega, by go_num, hL2, hR2, hst2, ho6, bb2, bb1, hz6, hbel2⟩
        case measure => simp [intOf]; omega
      · obtain rfl : k = nt' := by omega
        have c10 := b14.cell 0
        have c11 := b14.cell 1
        have c12 := b14.cell 2
        have c13 := b14.cell 3
        have c20 := b24.cell 0
        have c21 := b24.cell 1
        have c22 := b24.cell 2
        have c23 := b24.cell 3
        have f20 := b24.frozen 0
        have f21 := b24.frozen 1
        have f22 := b24.frozen 2
        have f23 := b24.frozen 3
        simp at c10 c11 c12 c13 c20 c21 c22 c23
        have hq1 : ∀ o, ∀ q, (Value.slice A1 nw' d1).ownBlock = some q → q ≠ (⟨w.heap.size + 1, o, none⟩ : Addr).block := fun o q hq => by have := (unhide HN1 q hq).1; show q ≠ w.heap.size + 1; omega
        have hq3 : ∀ o, ∀ q, (Value.slice A3 k d3).ownBlock = some q → q ≠ (⟨w.heap.size + 1, o, none⟩ : Addr).block := fun o q hq => by have := own_block_ge ho4 q hq; show q ≠ w.heap.size + 1; omega
        have hBB : Below w.heap.size w (((((wr.setCell ⟨w.heap.size + 1, 0, none⟩ (.int .i64 n)).setCell ⟨w.heap.size + 1, 1, none⟩ (.int .i64 way')).setCell ⟨w.heap.size + 1, 2, none⟩ (.slice A1 nw' d1)).setCell ⟨w.heap.size + 1, 3, none⟩ (.slice A3 k d3))) :=
          (((hbel.setCell (p := ⟨w.heap.size + 1, 0, none⟩) (by show w.heap.size ≤ w.heap.size + 1; omega) _).setCell (p := ⟨w.heap.size + 1, 1, none⟩) (by show w.heap.size ≤ w.heap.size + 1; omega) _).setCell (p := ⟨w.heap.size + 1, 2, none⟩) (by show w.heap.size ≤ w.heap.size + 1; omega) _).setCell (p := ⟨w.heap.size + 1, 3, none⟩) (by show w.heap.size ≤ w.heap.size + 1; omega) _
        have hGR : Hid (GReads ((((wr.setCell ⟨w.heap.size + 1, 0, none⟩ (.int .i64 n)).setCell ⟨w.heap.size + 1, 1, none⟩ (.int .i64 way')).setCell ⟨w.heap.size + 1, 2, none⟩ (.slice A1 nw' d1)).setCell ⟨w.heap.size + 1, 3, none⟩ (.slice A3 k d3)) ((((wr.setCell ⟨w.heap.size + 1, 0, none⟩ (.int .i64 n)).setCell ⟨w.heap.size + 1, 1, none⟩ (.int .i64 way')).setCell ⟨w.heap.size + 1, 2, none⟩ (.slice A1 nw' d1)).setCell ⟨w.heap.size + 1, 3, none⟩ (.slice A3 k d3)).heap.size ⟨n, way', A1, nw', d1, ws', A3, k, d3, ts''⟩) := hide (by
          have q1 := own_far (own_far (own_far (own_far ho5 (hq1 0) (.int .i64 n)) (hq1 1) (.int .i64 way')) (hq1 2) (.slice A1 nw' d1)) (hq1 3) (.slice A3 k d3)
          have q3 := own_far (own_far (own_far (own_far ho4 (hq3 0) (.int .i64 n)) (hq3 1) (.int .i64 way')) (hq3 2) (.slice A1 nw' d1)) (hq3 3) (.slice A3 k d3)
          refine ⟨Reads.of_own q1, ⟨Reads.of_own q3, fun r hr => ?_⟩, own_len q1, own_len q3, fun e => by dsimp only at e; rw [e] at q1; exact (own_nil q1).1, fun e => by dsimp only at e; rw [e] at q3; exact (own_nil q3).1⟩
          obtain ⟨i, hi⟩ := List.mem_iff_getElem?.1 hr
          obtain ⟨h1, h2⟩ := unhide HR i r hi
          refine ⟨?_, h1.len, h1.nil⟩
          have hz' : ((((wr.setCell ⟨w.heap.size + 1, 0, none⟩ (.int .i64 n)).setCell ⟨w.heap.size + 1, 1, none⟩ (.int .i64 way')).setCell ⟨w.heap.size + 1, 2, none⟩ (.slice A1 nw' d1)).setCell ⟨w.heap.size + 1, 3, none⟩ (.slice A3 k d3)).heap.size = wr.heap.size := by simp [World.setCell]
          rw [hz']
          have hne : ∀ o, 0 < r.n → ∀ a, r.A = some a → a.block ≠ (⟨w.heap.size + 1, o, none⟩ : Addr).block := fun o hn a ha e => by
            have := (h2 hn a ha).2.2
            have e' : a.block = w.heap.size + 1 := e
            omega
          exact Reads.far (Reads.far (Reads.far (Reads.far h1.reads (hne 0) _) (hne 1) _) (hne 2) _) (hne 3) _)
        have bF := (((b24.set_ 0 (.int .i64 n)).set_ 1 (.int .i64 way')).set_ 2 (.slice A1 nw' d1)).set_ 3 (.slice A3 k d3)
        simp at bF
        have HTT : Hid (ts''.map Tr.l = G.trees.map (woV fe)) := hide (by
          rw [unhide HL, List.take_of_length_le (by rw [unhide hGl]; exact Nat.le_refl _), List.drop_of_length_le (by rw [unhide hGl]; exact Nat.le_refl _), List.append_nil])
        have HBB := hide hBB
        clear hq1 hq3 hBB HR ho4 ho5 HL
        go_wp2_with fail
        generalize (((wr.setCell ⟨w.heap.size + 1, 0, none⟩ (.int .i64 n)).setCell ⟨w.heap.size + 1, 1, none⟩ (.int .i64 way')).setCell ⟨w.heap.size + 1, 2, none⟩ (.slice A1 nw' d1)).setCell ⟨w.heap.size + 1, 3, none⟩ (.slice A3 k d3) = WF at *
        have k0 := bF.cell 0
        have k1 := bF.cell 1
        have k2 := bF.cell 2
        have k3 := bF.cell 3
        simp at k0 k1 k2 k3
        refine bodyPost_ret (v := .tuple #[.agg #[.int .i64 n, .int .i64 way', .slice A1 nw' d1, .slice A3 k d3], .nilIface]) (by simp [results, Try.results7, go_sem, k0, k1, k2, k3]) rfl ?_
        exact unhide HPost ⟨n, way', A1, nw', d1, ws', A3, k, d3, ts''⟩ WF (unhide hGR) rfl rfl (unhide HWS) (unhide HTT) (unhide HBB)
  · have HPost : Hid (∀ W : World, Below w.heap.size w W → WGrovePost g fe w (.returned (.tuple #[.agg #[.int .i64 0, .int .i64 0, .slice none 0 0, .slice none 0 0], errV (woE g fe)])) W) := hide (fun W h => ⟨⟨0, 0, none, 0, 0, [], none, 0, 0, []⟩, rfl, ⟨IReads.nil_, ⟨Reads.none_, fun r hr => (by cases hr)⟩, Nat.zero_le _, Nat.zero_le _, fun _ => rfl, fun _ => rfl⟩, fun e => absurd e h0, fun _ => ⟨rfl, rfl, rfl, rfl⟩, h⟩)
    by_cases hge : g.e = 0
    case neg =>
      have hwe : woE g fe = g.e := by unfold woE; rw [if_neg hge]
      rw [hwe] at HPost h0
      have hne := errV_1 h0
      generalize errV g.e = EV at *
      clear hwe hge
      obtain ⟨G, hGd⟩ : ∃ G, G = g := ⟨_, rfl⟩
      rw [← hGd] at HPost
      rw [show WGrovePost g fe w = WGrovePost G fe w by rw [hGd]]
      have HPG := HPost
      obtain ⟨f, way, Aw, nw, cw, ws, At, nt, ct, ts⟩ := g
      simp only [Gv.val] at cCk ⊢
      clear hg HNW h0 HPost hGd
      obtain ⟨W, hW⟩ : ∃ W, W = ((w.alloc (.cells #[.int .i64 f, .int .i64 way, .slice Aw nw cw, .slice At nt ct] 25)).alloc (.cells #[.int .i64 0, .int .i64 0, .slice none 0 0, .slice none 0 0] 25)) := ⟨_, rfl⟩
      have b2 : Blk W (w.heap.size + 1) 25 #[.int .i64 0, .int .i64 0, .slice none 0 0, .slice none 0 0] := by
        rw [hW]
        have := Blk.new (w.alloc (.cells #[.int .i64 f, .int .i64 way, .slice Aw nw cw, .slice At nt ct] 25)) 25 #[.int .i64 0, .int .i64 0, .slice none 0 0, .slice none 0 0]
        rwa [World.size_alloc] at this
      have hWs : W.heap.size = w.heap.size + 2 := by rw [hW]; simp
      have hb0 : Below w.heap.size w W := by rw [hW]; exact ((Below.refl _ _).alloc (Nat.le_refl _) _).alloc (by simp) _
      go_enter Try.func7, Try.ntmps7
      go_wp2_with fail
      rw [← hW]
      clear hW
      refine (unhide cCk W hb0).mono ?_
      rintro e w1 ⟨rfl, hb1⟩
      have b21 := b2.below hb1 (by omega)
      have hB1 := hb0.trans (hb1.mono (by omega))
      have c20 := b21.cell 0
      have c21 := b21.cell 1
      have c22 := b21.cell 2
      have c23 := b21.cell 3
      have f20 := b21.frozen 0
      have f21 := b21.frozen 1
      have f22 := b21.frozen 2
      have f23 := b21.frozen 3
      simp at c20 c21 c22 c23
      have hBB : Below w.heap.size w (((((w1.setCell ⟨w.heap.size + 1, 0, none⟩ (.int .i64 0)).setCell ⟨w.heap.size + 1, 1, none⟩ (.int .i64 0)).setCell ⟨w.heap.size + 1, 2, none⟩ (.slice none 0 0)).setCell ⟨w.heap.size + 1, 3, none⟩ (.slice none 0 0))) :=
        (((hB1.setCell (p := ⟨w.heap.size + 1, 0, none⟩) (by show w.heap.size ≤ w.heap.size + 1; omega) _).setCell (p := ⟨w.heap.size + 1, 1, none⟩) (by show w.heap.size ≤ w.heap.size + 1; omega) _).setCell (p := ⟨w.heap.size + 1, 2, none⟩) (by show w.heap.size ≤ w.heap.size + 1; omega) _).setCell (p := ⟨w.heap.size + 1, 3, none⟩) (by show w.heap.size ≤ w.heap.size + 1; omega) _
      have bF := (((b21.set_ 0 (.int .i64 0)).set_ 1 (.int .i64 0)).set_ 2 (.slice none 0 0)).set_ 3 (.slice none 0 0)
      simp at bF
      have HBB := hide hBB
      clear hBB hB1 b21 b2 hb0 hb1 cCk
      rw [hne]
      go_wp2_with fail
      generalize (((w1.setCell ⟨w.heap.size + 1, 0, none⟩ (.int .i64 0)).setCell ⟨w.heap.size + 1, 1, none⟩ (.int .i64 0)).setCell ⟨w.heap.size + 1, 2, none⟩ (.slice none 0 0)).setCell ⟨w.heap.size + 1, 3, none⟩ (.slice none 0 0) = WF at *
      have k0 := bF.cell 0
      have k1 := bF.cell 1
      have k2 := bF.cell 2
      have k3 := bF.cell 3
      simp at k0 k1 k2 k3
      refine bodyPost_ret (v := .tuple #[.agg #[.int .i64 0, .int .i64 0, .slice none 0 0, .slice none 0 0], EV]) (by rw [hne]; simp [results, Try.results7, go_sem, k0, k1, k2, k3]) rfl (unhide HPG WF (unhide HBB))
    have hwe : woE g fe = 1 := by unfold woE at h0 ⊢; rw [if_pos hge] at h0 ⊢; by_cases h1 : fe < 0 ∨ g.f ≤ fe; rw [if_pos h1]; rw [if_neg h1] at h0; exact absurd rfl h0
    have hrg : fe < 0 ∨ g.f ≤ fe := by unfold woE at h0; rw [if_pos hge] at h0; by_cases h1 : fe < 0 ∨ g.f ≤ fe; exact h1; rw [if_neg h1] at h0; exact absurd rfl h0
    rw [hwe] at HPost
    rw [hge, errV_0 rfl] at cCk
    clear hwe hge h0
    obtain ⟨G, hGd⟩ : ∃ G, G = g := ⟨_, rfl⟩
    rw [← hGd] at HPost
    rw [show WGrovePost g fe w = WGrovePost G fe w by rw [hGd]]
    have HPG := HPost
    obtain ⟨f, way, Aw, nw, cw, ws, At, nt, ct, ts⟩ := g
    simp only [Gv.val] at cCk ⊢
    clear hg HNW HPost hGd
    dsimp only at hrg
    obtain ⟨W, hW⟩ : ∃ W, W = ((w.alloc (.cells #[.int .i64 f, .int .i64 way, .slice Aw nw cw, .slice At nt ct] 25)).alloc (.cells #[.int .i64 0, .int .i64 0, .slice none 0 0, .slice none 0 0] 25)) := ⟨_, rfl⟩
    have b1 : Blk W w.heap.size 25 #[.int .i64 f, .int .i64 way, .slice Aw nw cw, .slice At nt ct] := by rw [hW]; exact (Blk.new _ _ _).alloc _
    have b2 : Blk W (w.heap.size + 1) 25 #[.int .i64 0, .int .i64 0, .slice none 0 0, .slice none 0 0] := by
      rw [hW]
      have := Blk.new (w.alloc (.cells #[.int .i64 f, .int .i64 way, .slice Aw nw cw, .slice At nt ct] 25)) 25 #[.int .i64 0, .int .i64 0, .slice none 0 0, .slice none 0 0]
      rwa [World.size_alloc] at this
    have hWs : W.heap.size = w.heap.size + 2 := by rw [hW]; simp
    have hb0 : Below w.heap.size w W := by rw [hW]; exact ((Below.refl _ _).alloc (Nat.le_refl _) _).alloc (by simp) _
    go_enter Try.func7, Try.ntmps7
    go_wp2_with fail
    rw [← hW]
    clear hW
    refine (unhide cCk W hb0).mono ?_
    rintro e w1 ⟨rfl, hb1⟩
    have b21 := b2.below hb1 (by omega)
    have x0 := (b1.below hb1 (by omega)).cell 0
    simp at x0
    have hB1 := hb0.trans (hb1.mono (by omega))
    have c20 := b21.cell 0
    have c21 := b21.cell 1
    have c22 := b21.cell 2
    have c23 := b21.cell 3
    have f20 := b21.frozen 0
    have f21 := b21.frozen 1
    have f22 := b21.frozen 2
    have f23 := b21.frozen 3
    simp at c20 c21 c22 c23
    have hBB : Below w.heap.size w (((((w1.setCell ⟨w.heap.size + 1, 0, none⟩ (.int .i64 0)).setCell ⟨w.heap.size + 1, 1, none⟩ (.int .i64 0)).setCell ⟨w.heap.size + 1, 2, none⟩ (.slice none 0 0)).setCell ⟨w.heap.size + 1, 3, none⟩ (.slice none 0 0))) :=
      (((hB1.setCell (p := ⟨w.heap.size + 1, 0, none⟩) (by show w.heap.size ≤ w.heap.size + 1; omega) _).setCell (p := ⟨w.heap.size + 1, 1, none⟩) (by show w.heap.size ≤ w.heap.size + 1; omega) _).setCell (p := ⟨w.heap.size + 1, 2, none⟩) (by show w.heap.size ≤ w.heap.size + 1; omega) _).setCell (p := ⟨w.heap.size + 1, 3, none⟩) (by show w.heap.size ≤ w.heap.size + 1; omega) _
    have bF := (((b21.set_ 0 (.int .i64 0)).set_ 1 (.int .i64 0)).set_ 2 (.slice none 0 0)).set_ 3 (.slice none 0 0)
    simp at bF
    have HBB := hide hBB
    by_cases hlo : fe < 0
    · have e1 : decide (fe < 0) = true := decide_eq_true hlo
      clear hrg hlo
      clear hBB hB1 b21 b2 b1 hb0 hb1 cCk
      go_wp2_with fail
      generalize (((w1.setCell ⟨w.heap.size + 1, 0, none⟩ (.int .i64 0)).setCell ⟨w.heap.size + 1, 1, none⟩ (.int .i64 0)).setCell ⟨w.heap.size + 1, 2, none⟩ (.slice none 0 0)).setCell ⟨w.heap.size + 1, 3, none⟩ (.slice none 0 0) = WF at *
      have k0 := bF.cell 0
      have k1 := bF.cell 1
      have k2 := bF.cell 2
      have k3 := bF.cell 3
      simp at k0 k1 k2 k3
      refine bodyPost_ret (v := .tuple #[.agg #[.int .i64 0, .int .i64 0, .slice none 0 0, .slice none 0 0], errV 1]) (by simp [errV, results, Try.results7, go_sem, k0, k1, k2, k3]) rfl (unhide HPG WF (unhide HBB))
    · have e1 : decide (fe < 0) = false := decide_eq_false hlo
      have e2 : decide (f ≤ fe) = true := decide_eq_true (by omega)
      clear hrg hlo
      clear hBB hB1 b21 b2 b1 hb0 hb1 cCk
      go_wp2_with fail
      generalize (((w1.setCell ⟨w.heap.size + 1, 0, none⟩ (.int .i64 0)).setCell ⟨w.heap.size + 1, 1, none⟩ (.int .i64 0)).setCell ⟨w.heap.size + 1, 2, none⟩ (.slice none 0 0)).setCell ⟨w.heap.size + 1, 3, none⟩ (.slice none 0 0) = WF at *
      have k0 := bF.cell 0
      have k1 := bF.cell 1
      have k2 := bF.cell 2
      have k3 := bF.cell 3
      simp at k0 k1 k2 k3
      refine bodyPost_ret (v := .tuple #[.agg #[.int .i64 0, .int .i64 0, .slice none 0 0, .slice none 0 0], errV 1]) (by simp [errV, results, Try.results7, go_sem, k0, k1, k2, k3]) rfl (unhide HPG WF (unhide HBB))
end Go.Proofs.Ytopncifebldklaa
