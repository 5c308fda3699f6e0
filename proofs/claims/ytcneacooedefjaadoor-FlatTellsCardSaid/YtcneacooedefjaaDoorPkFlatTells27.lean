/- Part 27 of what LawFlatTells needs: FlatNew. Conditions: as each lemma names. -/
import Derived.Test.YtcneacooedefjaaDoorPkFlatTells22
import Derived.Test.YtcneacooedefjaaDoorPkFlatTells26
/- flat.New: a grove laid flat. Conditions: a grove that reads as data. -/
namespace Go.Proofs.YtcneacooedefjaaDoor
set_option linter.unusedVariables false
set_option linter.unusedSimpArgs false
open Go.RowKit

/-! ### plain -/
def flL (ts : List (List Nd)) : List Nd := ts.foldl (fun L t => L ++ (flatT t).map (fsh L.length)) []
theorem flL_snoc (ts : List (List Nd)) (t : List Nd) : flL (ts ++ [t]) = flL ts ++ (flatT t).map (fsh (flL ts).length) := by unfold flL; rw [List.foldl_append]; rfl
def flPre (ts : List (List Nd)) (k : Nat) : Nat := (flL (ts.take k)).length
def flR (ts : List (List Nd)) (j : Nat) : List Nat := (List.range (j + 1)).map (flPre ts)
theorem flR_snoc (ts : List (List Nd)) (j : Nat) : flR ts (j + 1) = flR ts j ++ [flPre ts (j + 1)] := by unfold flR; rw [List.range_succ, List.map_append]; rfl
theorem flR_len (ts : List (List Nd)) (j : Nat) : (flR ts j).length = j + 1 := by unfold flR; simp
theorem flR_at (ts : List (List Nd)) {j k : Nat} (h : k ≤ j) : (flR ts j)[k]? = some (flPre ts k) := by
  unfold flR
  rw [List.getElem?_map, List.getElem?_range (by omega)]; rfl
theorem flPre_succ {ts : List (List Nd)} {k : Nat} {t : List Nd} {fe : Int} (h : ts[k]? = some t) (hR : Right t fe) : flPre ts (k + 1) = flPre ts k + t.length := by
  unfold flPre
  rw [take_next h, flL_snoc, List.length_append, List.length_map, hR.flatLen]
theorem flPre_le {ts : List (List Nd)} {fe : Int} (h : ∀ t ∈ ts, Right t fe) : ∀ k, flPre ts k ≤ 63 * k := by
  intro k
  induction k with
  | zero => exact Nat.le_refl _
  | succ k ih =>
    rcases Nat.lt_or_ge k ts.length with hk | hk
    · have hx : ts[k]? = some ts[k] := List.getElem?_eq_getElem hk
      have hR := h _ (List.mem_of_getElem? hx)
      rw [flPre_succ hx hR]
      have := hR.most
      omega
    · have e : flPre ts (k + 1) = flPre ts k := by unfold flPre; rw [List.take_of_length_le (by omega), List.take_of_length_le (by omega)]
      omega
/-- who stands in the rows at place j of tree k -/
theorem flL_at : ∀ (n : Nat) {ts : List (List Nd)} {k j : Nat} {t : List Nd} {x : Nd}, k < n → ts[k]? = some t → (flatT t)[j]? = some x → (flL (ts.take n))[flPre ts k + j]? = some (fsh (flPre ts k) x) := by
  intro n
  induction n with
  | zero => intro ts k j t x h _ _; omega
  | succ n ih =>
    intro ts k j t x hk ht hx
    rcases Nat.lt_or_ge n ts.length with hn | hn
    · have hy : ts[n]? = some ts[n] := List.getElem?_eq_getElem hn
      rw [take_next hy, flL_snoc]
      by_cases he : k = n
      · subst he
        rw [hy] at ht
        injection ht with ht
        rw [ht]
        rw [List.getElem?_append_right (by unfold flPre; omega)]
        show ((flatT t).map _)[flPre ts k + j - (flL (ts.take k)).length]? = _
        rw [show flPre ts k + j - (flL (ts.take k)).length = j by unfold flPre; omega, List.getElem?_map, hx]
        rfl
      · have := ih (by omega) ht hx
        rw [List.getElem?_append_left (List.getElem?_eq_some_iff.1 this).1]
        exact this
    · rw [List.take_of_length_le (by omega)]
      have hk2 := (List.getElem?_eq_some_iff.1 ht).1
      have := ih (by omega) ht hx
      rwa [List.take_of_length_le (by omega)] at this

theorem GOwn.store {w : World} {base : Nat} {g : Gv} (h : GOwn w base g) {p : Addr} (hp : p.block < base) (u : Value) : GOwn (w.setCell p u) base g := by
  have hz : (w.setCell p u).heap.size = w.heap.size := by simp [World.setCell]
  refine ⟨own_far h.ws (fun k hk => by have := own_block_ge h.ws k hk; omega) u, own_far h.ts (fun k hk => by have := own_block_ge h.ts k hk; omega) u, fun r hr => ?_⟩
  obtain ⟨h1, h2⟩ := h.each r hr
  refine ⟨⟨?_, h1.len, h1.nil⟩, h2⟩
  rw [hz]
  exact Reads.far h1.reads (fun hn a ha => by have := (h2 hn a ha).2.2; omega) u
theorem wp_nameF {P : Program} {c : Code} {Q : Exit → Act → World → Prop} {a : Act} {W : World} (h : ∀ X, X = W → Code.wp P c Q a X) : Code.wp P c Q a W := h W rfl
theorem Bag.start (w : World) : Bag w w w.heap.size [] [] [] := ⟨fun _ h => by simp at h, by simp, fun _ h => by simp at h, fun _ h => by simp at h, by simp, Nat.le_refl _, Below.refl _ _⟩

/-- a flat one, as it may be read -/
def FlIs (w : World) (B gF : Nat) (f way : Int) (ws : List Int) (R : List Nat) (L : List Nd) : Prop :=
  ∃ Aw nw cw Ar nr cr A4 A5 A6 A7 A8 c4 c5 c6 c7 c8, Blk w gF 55 (cellsF f way Aw nw cw Ar nr cr A4 A5 A6 A7 A8 L.length c4 c5 c6 c7 c8) ∧ gF < B ∧
    (IReads w B Aw nw ws ∧ nw ≤ maxLen ∧ (Aw = none → cw = 0)) ∧ (Reads w B 1 Ar nr (R.map cN) ∧ nr ≤ cr) ∧
    Reads w B 1 A4 L.length (L.map cF) ∧ Reads w B 1 A5 L.length (L.map cC) ∧ Reads w B 1 A6 L.length (L.map cL) ∧ Reads w B 1 A7 L.length (L.map cB) ∧ Reads w B 1 A8 L.length (L.map cV)
theorem FlIs.below {w w' : World} {B gF : Nat} {f way : Int} {ws : List Int} {R : List Nat} {L : List Nd} (h : FlIs w B gF f way ws R L) (hb : Below B w w') : FlIs w' B gF f way ws R L := by
  obtain ⟨Aw, nw, cw, Ar, nr, cr, A4, A5, A6, A7, A8, c4, c5, c6, c7, c8, h1, h2, h3, h4, h5, h6, h7, h8, h9⟩ := h
  exact ⟨Aw, nw, cw, Ar, nr, cr, A4, A5, A6, A7, A8, c4, c5, c6, c7, c8, h1.below hb h2, h2, ⟨h3.1.below hb, h3.2⟩, ⟨h4.1.below hb, h4.2⟩, h5.below hb, h6.below hb, h7.below hb, h8.below hb, h9.below hb⟩
theorem FlIs.more {w : World} {B B' gF : Nat} {f way : Int} {ws : List Int} {R : List Nat} {L : List Nd} (h : FlIs w B gF f way ws R L) (hb : B ≤ B') : FlIs w B' gF f way ws R L := by
  obtain ⟨Aw, nw, cw, Ar, nr, cr, A4, A5, A6, A7, A8, c4, c5, c6, c7, c8, h1, h2, h3, h4, h5, h6, h7, h8, h9⟩ := h
  exact ⟨Aw, nw, cw, Ar, nr, cr, A4, A5, A6, A7, A8, c4, c5, c6, c7, c8, h1, by omega, ⟨h3.1.more hb, h3.2⟩, ⟨h4.1.more hb, h4.2⟩, h5.more hb, h6.more hb, h7.more hb, h8.more hb, h9.more hb⟩
theorem FBag.is {w0 w : World} {base g : Nat} {f way : Int} {Aw : Option Addr} {nw cw : Nat} {Ar : Option Addr} {nr cr : Nat} {R : List Nat} {L : List Nd} {ws : List Int} {B : Nat} (h : FBag w0 w base g f way Aw nw cw Ar nr cr (R.map cN) L)
    (hw : IReads w0 B Aw nw ws) (hB : B ≤ base) (hnw : nw ≤ maxLen) (hnil : Aw = none → cw = 0) (hrc : nr ≤ cr) : FlIs w w.heap.size g f way ws R L := by
  obtain ⟨A4, A5, A6, A7, A8, c4, c5, c6, c7, c8, hb⟩ := h
  have hx := hb.blk _ (List.mem_cons_self ..)
  have hr := fun i r (hi : (rowsF A4 A5 A6 A7 A8 L.length c4 c5 c6 c7 c8 L [⟨3, 1, .slice Ar nr cr, nr, R.map cN⟩])[i]? = some r) => hb.own r (List.mem_append_left _ (List.mem_of_getElem? hi))
  refine ⟨Aw, nw, cw, Ar, nr, cr, A4, A5, A6, A7, A8, c4, c5, c6, c7, c8, hx.1, hx.1.lt, ⟨(hw.below (hb.bel.mono hB)).more (Nat.le_trans hB hb.low), hnw, hnil⟩, ⟨Reads.of_own (hr 5 _ rfl), hrc⟩, Reads.of_own (hr 0 _ rfl), Reads.of_own (hr 1 _ rfl), Reads.of_own (hr 2 _ rfl), Reads.of_own (hr 3 _ rfl), Reads.of_own (hr 4 _ rfl)⟩

theorem fnew_conv {w0 w : World} {base g : Nat} {f way : Int} {Aw : Option Addr} {nw cw : Nat} {Ar : Option Addr} {nr cr : Nat} {rl : List Value} {A4 A5 A6 A7 A8 : Option Addr} {n c4 c5 c6 c7 c8 : Nat} {L : List Nd} (hl : L.length = n)
    (h : Bag w0 w base [⟨3, 1, .slice A4 n c4, n, L.map cF⟩, ⟨3, 1, .slice A5 n c5, n, L.map cC⟩, ⟨3, 1, .slice A6 n c6, n, L.map cL⟩, ⟨4, 1, .slice A7 n c7, n, L.map cB⟩, ⟨3, 1, .slice A8 n c8, n, L.map cV⟩, ⟨3, 1, .slice Ar nr cr, nr, rl⟩] []
      [⟨g, 55, #[.int .i64 f, .int .i64 way, .slice Aw nw cw, .slice Ar nr cr, .slice A4 n c4, .slice A5 n c5, .slice A6 n c6, .slice A7 n c7, .slice A8 n c8]⟩]) :
    FBag w0 w base g f way Aw nw cw Ar nr cr rl L := ⟨A4, A5, A6, A7, A8, c4, c5, c6, c7, c8, by rw [hl]; exact h⟩

def FNewPost (g : Gv) (w : World) (e : Ending) (w' : World) : Prop :=
  (g.e ≠ 0 ∧ e = .returned (.tuple #[.pointer none, errV g.e]) ∧ Below w.heap.size w w') ∨
  (g.e = 0 ∧ ∃ gF, e = .returned (.tuple #[.pointer (some ⟨gF, 0, none⟩), .nilIface]) ∧ FlIs w' w'.heap.size gF g.f g.way g.ws (flR g.trees g.trees.length) (flL g.trees) ∧ w.heap.size ≤ gF ∧ Below w.heap.size w w')

set_option maxRecDepth 100000 in
set_option maxHeartbeats 8000000 in
theorem fnew_any (g : Gv) (w : World) (hg : GReads w w.heap.size g) :
    Calls Tryd.prog 5 #[g.val] w (FNewPost g w) := by
  obtain ⟨W, hW, bx, hWs, hb0⟩ := gbox w g.f g.way g.Aw g.nw g.cw g.At g.nt g.ct
  have hck := hide (gcheck_any g W ((hg.below hb0).more (by omega)))
  by_cases h0 : g.e = 0
  case neg =>
    have hv := errV_1 h0
    have HV := hide hv
    have HE := hide h0
    obtain ⟨E, hE⟩ : ∃ E, E = g.e := ⟨_, rfl⟩
    have HEE := hide hE
    rw [← hE] at hck hv HV
    clear hE h0 hg
    obtain ⟨f, way, Aw, nw, cw, ws, At, nt, ct, ts⟩ := g
    simp only [Gv.val] at hck ⊢
    dsimp only at hW bx
    have c0 := bx.cell 0
    have c1 := bx.cell 1
    have c2 := bx.cell 2
    have c3 := bx.cell 3
    simp at c0 c1 c2 c3
    go_enter Tryd.func5, Tryd.ntmps5
    go_wp2_with fail
    rw [← hW]
    clear hW
    go_wp2_with fail
    refine (unhide hck).mono ?_
    rintro e w1 ⟨rfl, hb1⟩
    rw [hv]
    clear hck c0 c1 c2 c3
    have hB1 := hb0.trans (hb1.mono (by omega))
    go_wp2_with fail
    go_ret2
    exact .inl ⟨unhide HE, by rw [← unhide HEE, unhide HV]; rfl, hB1⟩
  have hG := groveE_right h0
  have hv := hide (errV_0 h0)
  have HE := hide h0
  have hnt : g.ts.length = g.nt := hg.ts.len
  have hnw : g.ws.length = g.nw := hg.ws.len
  have hn12 : g.nt ≤ 12 := by have := hG.most; omega
  have hww : g.nw = g.nt := by have := hG.wlen; omega
  have HTR : Hid (∀ t ∈ g.trees, Right t g.f) := hide (fun t ht => by
    obtain ⟨r, hr, rfl⟩ := List.mem_map.1 ht
    exact right_of (hG.trees r hr))
  have hts : ∀ r ∈ g.ts, r.n ≤ 100000 := fun r hr => by
    have := (unhide HTR) r.l (List.mem_map.2 ⟨r, hr, rfl⟩)
    have h2 := (hg.ts.2 r hr).reads.len
    have := this.most
    omega
  have hcl := hide (fun (X : World) (hB : Below w.heap.size w X) => gclone_any g X ((hg.below hB).more hB.size) (by omega) (by omega) hts)
  have HNT : Hid (g.trees.length = g.nt) := hide (by rw [Gv.trees_len]; exact hnt)
  obtain ⟨T, hT⟩ : ∃ T, T = g.trees := ⟨_, rfl⟩
  obtain ⟨WS, hWS⟩ : ∃ WS, WS = g.ws := ⟨_, rfl⟩
  have HP : Hid (∀ (gF : Nat) (X : World), FlIs X X.heap.size gF g.f g.way WS (flR T T.length) (flL T) → w.heap.size ≤ gF → Below w.heap.size w X → FNewPost g w (.returned (.tuple #[.pointer (some ⟨gF, 0, none⟩), .nilIface])) X) := hide (fun gF X h1 h2 h3 => .inr ⟨unhide HE, gF, rfl, by rw [hT, hWS] at h1; exact h1, h2, h3⟩)
  have hcl2 : Hid (∀ X, Below w.heap.size w X → Calls Tryd.prog 19 #[g.val] X fun e w' => ∃ g' : Gv, e = .returned g'.val ∧ g'.f = g.f ∧ g'.way = g.way ∧ g'.ws = WS ∧ g'.trees = T ∧ GOwn w' X.heap.size g' ∧ Below X.heap.size X w') := hide (fun X hB => by rw [hT, hWS]; exact unhide hcl X hB)
  rw [← hT] at HTR HNT
  rw [unhide hv] at hck
  clear hcl hG HE hnt hnw hww hts hT hWS h0 hg hv
  obtain ⟨G, hGd⟩ : ∃ G, G = g := ⟨_, rfl⟩
  rw [← hGd] at HP
  rw [show FNewPost g w = FNewPost G w by rw [hGd]]
  have hGf : G.f = g.f := by rw [hGd]
  have hGw : G.way = g.way := by rw [hGd]
  rw [hGf, hGw] at HP
  clear hGd hGf hGw
  obtain ⟨f, way, Aw, nw, cw, ws, At, nt, ct, ts⟩ := g
  simp only [Gv.val] at hck hcl2 ⊢
  dsimp only at hW bx hn12 HNT HTR HP hcl2
  have c0 := bx.cell 0
  have c1 := bx.cell 1
  have c2 := bx.cell 2
  have c3 := bx.cell 3
  simp at c0 c1 c2 c3
  go_enter Tryd.func5, Tryd.ntmps5
  go_wp2_with fail
  rw [← hW]
  clear hW
  go_wp2_with fail
  refine (unhide hck).mono ?_
  rintro e w1 ⟨rfl, hb1⟩
  have bx1 := bx.below hb1 (by omega)
  have hB1 := hb0.trans (hb1.mono (by omega))
  have d0 := bx1.cell 0
  have d1 := bx1.cell 1
  have d2 := bx1.cell 2
  have d3 := bx1.cell 3
  simp at d0 d1 d2 d3
  have hz1 := hb1.size
  clear hck c0 c1 c2 c3 bx hb0
  go_wp2_with fail
  refine (unhide hcl2 w1 hB1).mono ?_
  rintro e w2 ⟨g', rfl, e1, e2, e3, e4, hown, hb2⟩
  have bx2 := bx1.below hb2 (by omega)
  have hB2 := hB1.trans (hb2.mono (by omega))
  have hz2 := hb2.size
  obtain ⟨f', way', A1, nw', d1', ws', A3, nt', d3', ts'⟩ := g'
  dsimp only at e1 e2 e3
  subst e1
  subst e2
  subst e3
  simp only [Gv.val]
  have hnt' : nt' = nt := by
    have h1 := congrArg List.length e4
    rw [unhide HNT, Gv.trees_len] at h1
    have h2 : ts'.length = nt' := by have := hown.ts.1; simpa using this
    have h3 : ts'.length = nt := h1
    omega
  subst hnt'
  have HT4 : Hid (∀ (k : Nat) r, ts'[k]? = some r → T[k]? = some r.l) := hide (fun k r h => by rw [← e4]; exact Gv.trees_at h)
  clear e4 d0 d1 d2 d3
  have y0 := bx2.cell 0
  have y1 := bx2.cell 1
  have y2 := bx2.cell 2
  have y3 := bx2.cell 3
  have z0 := bx2.frozen 0
  have z1 := bx2.frozen 1
  have z2 := bx2.frozen 2
  have z3 := bx2.frozen 3
  simp at y0 y1 y2 y3
  have hlt1 : w.heap.size < w1.heap.size := by omega
  have hox := (((hown.store (p := ⟨w.heap.size, 0, none⟩) hlt1 (.int .i64 f')).store (p := ⟨w.heap.size, 1, none⟩) hlt1 (.int .i64 way')).store (p := ⟨w.heap.size, 2, none⟩) hlt1 (.slice A1 nw' d1')).store (p := ⟨w.heap.size, 3, none⟩) hlt1 (.slice A3 nt' d3')
  have hbx := (((bx2.set_ 0 (.int .i64 f')).set_ 1 (.int .i64 way')).set_ 2 (.slice A1 nw' d1')).set_ 3 (.slice A3 nt' d3')
  have hBx := (((hB2.setCell (p := ⟨w.heap.size, 0, none⟩) (Nat.le_refl _) (.int .i64 f')).setCell (p := ⟨w.heap.size, 1, none⟩) (Nat.le_refl _) (.int .i64 way')).setCell (p := ⟨w.heap.size, 2, none⟩) (Nat.le_refl _) (.slice A1 nw' d1')).setCell (p := ⟨w.heap.size, 3, none⟩) (Nat.le_refl _) (.slice A3 nt' d3')
  go_upto_region 5 with (fail)
  refine wp_nameF fun X hX => ?_
  rw [← hX] at hox hbx hBx
  simp at hbx
  have hgx := hox.reads
  have k0 := hbx.cell 0
  have k1 := hbx.cell 1
  have k2 := hbx.cell 2
  have k3 := hbx.cell 3
  simp at k0 k1 k2 k3
  have hsx := hbx.lt
  have hb := (((((((Bag.start X).push 3 1 1 [.int .i64 0] rfl (by unfold maxLen; omega) rfl).take _ (List.mem_cons_self ..)).nil_ 3 1 rfl).nil_ 4 1 rfl).nil_ 3 1 rfl).nil_ 3 1 rfl).nil_ 3 1 rfl
  have hb2' := hb.box 55 (cellsF f' way' A1 nw' d1' (some ⟨X.heap.size, 0, none⟩) 1 1 none none none none none 0 0 0 0 0 0) rfl
  simp only [cellsF, World.size_alloc] at hb2'
  have hwr : IReads X X.heap.size A1 nw' ws' := hgx.ws
  have hnw' : nw' ≤ maxLen := hgx.nw
  have hnil' : A1 = none → d1' = 0 := hgx.nilw
  have htr : TReads X X.heap.size A3 nt' ts' := hgx.ts
  have hnt3 : nt' ≤ maxLen := hgx.nt
  unfold maxLen at hnt3
  clear hX hox hgx hown hb2 bx1 bx2 y0 y1 y2 y3 z0 z1 z2 z3 hB2 hb
  have hwr := hide hwr
  have hnil' := hide hnil'
  go_upto_region 6 with (fail)
  refine wp_bag hb2' (fun X0 hb3 => ?_)
  have hbd : Below X.heap.size X X0 := hb3.bel
  have j3 := (hbd.cell (p := ⟨w.heap.size, 3, none⟩) hsx).trans k3
  clear k0 k1 k2 k3 hb2'
  have hsx0 := hbd.size
  obtain ⟨gF, hgF⟩ : ∃ gF, gF = X.heap.size + 1 := ⟨_, rfl⟩
  rw [← hgF] at hb3 ⊢
  have hgw : w.heap.size ≤ gF := by omega
  have HGF := hide hgF
  clear hgF
  go_wp2_with fail
  go_loopw [27] (fun v wr => ∃ (j : Nat) (Ar : Option Addr) (cr : Nat), j ≤ nt' ∧ v = .int .i64 j ∧ FBag X wr X.heap.size gF f' way' A1 nw' d1' Ar (j + 1) cr ((flR T j).map cN) (flL (T.take j))) (fun v _ => nt' - (Lib.intOf v).toNat)
  case atStart => exact ⟨0, _, 1, Nat.zero_le _, rfl, none, none, none, none, none, 0, 0, 0, 0, 0, hb3⟩
  case round =>
    obtain ⟨j, Ar, cr, hj, rfl, hF⟩ := hrel
    by_cases hlt : j < nt'
    · have hbw : Below X.heap.size X wr := by obtain ⟨_, _, _, _, _, _, _, _, _, _, h⟩ := hF; exact h.bel
      obtain ⟨b, o, r, rfl, _, hr, hcr, hok⟩ := htr.get hlt
      have hcr2 := (hbw.cell (p := ⟨b, o + j, none⟩) (by assumption)).trans hcr
      obtain ⟨rA, rn, rc, rl⟩ := r
      dsimp only at hcr2
      have hrT := unhide HT4 j _ hr
      dsimp only at hrT
      have hRt := unhide HTR rl (List.mem_of_getElem? hrT)
      have hpl := flPre_le (ts := T) (unhide HTR) j
      have hpe := flPre_succ hrT hRt
      have hadd := hide (fadd_any gF f' way' A1 nw' d1' Ar (j + 1) cr ((flR T j).map cN) (flL (T.take j)) rA rn rc X.heap.size rl f' X wr X.heap.size hF hok.reads (Nat.le_refl _) hRt (by unfold flPre at hpl; omega))
      have HL1 : Hid (flL (T.take j) ++ (flatT rl).map (fsh (flL (T.take j)).length) = flL (T.take (j + 1))) := hide (by rw [take_next hrT, flL_snoc])
      have hM : flPre T (j + 1) ≤ 10000 := by have := hRt.most; omega
      rw [unhide HL1] at hadd
      clear hF hr hcr hok hrT hRt hpl hpe HL1
      go_wp2_with fail
      refine (unhide hadd).mono ?_
      rintro e w5 ⟨⟨ve, rfl⟩, hF5⟩
      obtain ⟨M, hM0⟩ : ∃ M, M = flPre T (j + 1) := ⟨_, rfl⟩
      have hML : (flL (T.take (j + 1))).length = M := hM0.symm
      obtain ⟨A4, A5, A6, A7, A8, c4, c5, c6, c7, c8, hBX⟩ := hF5
      rw [hML] at hBX
      simp only [rowsF, cellsF] at hBX
      rw [← hM0] at hM
      have HM0 := hide hM0
      have HML := hide hML
      clear hM0 hML hadd
      go_upto_region 10 with (fail)
      refine wp_region_G (st := [14]) (S := Ld [⟨gF, 55, #[.int .i64 f', .int .i64 way', .slice A1 nw' d1', .slice Ar (j + 1) cr, .slice A4 M c4, .slice A5 M c5, .slice A6 M c6, .slice A7 M c7, .slice A8 M c8]⟩]) (by kernel_rfl) ?_
      have hBd := (hBX).drew
      have hld := hBd.ld
      refine wpAnyG_cast #[false, false, false, false, false, false, false, false, false, false, false, false, false, false, false] (by kernel_rfl) ?_
      refine wpAnyG_pure (i := 0) (oi := ⟨some 34, _, _, _, _, _⟩) (v := .pointer (some ⟨gF, 0, none⟩)) rfl (by kernel_rfl) (by kernel_rfl) (by kernel_rfl) (by kernel_rfl) (fun _ _ _ h => h) (Or.inl ⟨by rfl, fun w => ?_⟩) hld ?_
      · go_simp
      try simp only [Act.put, List.setIfInBounds_toArray, List.set_cons_zero, List.set_cons_succ]
      refine wpAnyG_cast #[true, false, false, false, false, false, false, false, false, false, false, false, false, false, false] (by kernel_rfl) ?_
      refine wpAnyG_pure (i := 1) (oi := ⟨some 35, _, _, _, _, _⟩) (v := .pointer (some ⟨gF, 0, none⟩)) rfl (by kernel_rfl) (by kernel_rfl) (by kernel_rfl) (by kernel_rfl) (fun _ _ _ h => h) (Or.inl ⟨by rfl, fun w => ?_⟩) hld ?_
      · go_simp
      try simp only [Act.put, List.setIfInBounds_toArray, List.set_cons_zero, List.set_cons_succ]
      refine wpAnyG_cast #[true, true, false, false, false, false, false, false, false, false, false, false, false, false, false] (by kernel_rfl) ?_
      refine wpAnyG_pure (i := 2) (oi := ⟨some 36, _, _, _, _, _⟩) (v := .pointer (some ⟨gF, 0, none⟩)) rfl (by kernel_rfl) (by kernel_rfl) (by kernel_rfl) (by kernel_rfl) (fun _ _ _ h => h) (Or.inl ⟨by rfl, fun w => ?_⟩) hld ?_
      · go_simp
      try simp only [Act.put, List.setIfInBounds_toArray, List.set_cons_zero, List.set_cons_succ]
      refine wpAnyG_cast #[true, true, true, false, false, false, false, false, false, false, false, false, false, false, false] (by kernel_rfl) ?_
      refine wpAnyG_pure (i := 3) (oi := ⟨some 37, _, _, _, _, _⟩) (v := .pointer (some ⟨gF, 3, none⟩)) rfl (by kernel_rfl) (by kernel_rfl) (by kernel_rfl) (by kernel_rfl) (fun _ _ _ h => h) (Or.inl ⟨by rfl, fun w => ?_⟩) hld ?_
      · go_simp
      try simp only [Act.put, List.setIfInBounds_toArray, List.set_cons_zero, List.set_cons_succ]
      refine wpAnyG_cast #[true, true, true, true, false, false, false, false, false, false, false, false, false, false, false] (by kernel_rfl) ?_
      refine wpAnyG_take [11, 12, 13, 14] (i := 4) (oi := ⟨some 38, _, _, _, _, _⟩) (v := .slice Ar (j + 1) cr) rfl (by kernel_rfl) (by kernel_rfl) (by kernel_rfl) (by kernel_rfl) (by kernel_rfl) (by kernel_rfl) (by kernel_rfl) (fun _ _ _ h => h) (Or.inl ⟨by rfl, fun w hSw => ?_⟩) hld ?_
      · have kx := (hSw _ (List.mem_cons_self ..)).cell 3
        simp only [List.getElem?_toArray, List.getElem?_cons_zero, List.getElem?_cons_succ] at kx
        go_simp
      try simp only [Act.put, List.setIfInBounds_toArray, List.set_cons_zero, List.set_cons_succ]
      refine wpAnyG_cast #[true, true, true, true, true, false, false, false, false, false, false, false, false, false, false] (by kernel_rfl) ?_
      refine wpAnyG_pure (i := 5) (oi := ⟨some 39, _, _, _, _, _⟩) (v := .pointer (some ⟨gF, 0, none⟩)) rfl (by kernel_rfl) (by kernel_rfl) (by kernel_rfl) (by kernel_rfl) (fun _ _ _ h => h) (Or.inl ⟨by rfl, fun w => ?_⟩) hld ?_
      · go_simp
      try simp only [Act.put, List.setIfInBounds_toArray, List.set_cons_zero, List.set_cons_succ]
      refine wpAnyG_cast #[true, true, true, true, true, true, false, false, false, false, false, false, false, false, false] (by kernel_rfl) ?_
      refine wpAnyG_pure (i := 6) (oi := ⟨some 40, _, _, _, _, _⟩) (v := .pointer (some ⟨gF, 0, none⟩)) rfl (by kernel_rfl) (by kernel_rfl) (by kernel_rfl) (by kernel_rfl) (fun _ _ _ h => h) (Or.inl ⟨by rfl, fun w => ?_⟩) hld ?_
      · go_simp
      try simp only [Act.put, List.setIfInBounds_toArray, List.set_cons_zero, List.set_cons_succ]
      refine wpAnyG_cast #[true, true, true, true, true, true, true, false, false, false, false, false, false, false, false] (by kernel_rfl) ?_
      refine wpAnyG_pure (i := 7) (oi := ⟨some 41, _, _, _, _, _⟩) (v := .pointer (some ⟨gF, 4, none⟩)) rfl (by kernel_rfl) (by kernel_rfl) (by kernel_rfl) (by kernel_rfl) (fun _ _ _ h => h) (Or.inl ⟨by rfl, fun w => ?_⟩) hld ?_
      · go_simp
      try simp only [Act.put, List.setIfInBounds_toArray, List.set_cons_zero, List.set_cons_succ]
      refine wpAnyG_cast #[true, true, true, true, true, true, true, true, false, false, false, false, false, false, false] (by kernel_rfl) ?_
      refine wpAnyG_take [9, 10, 11, 12, 13, 14] (i := 8) (oi := ⟨some 42, _, _, _, _, _⟩) (v := .slice A4 M c4) rfl (by kernel_rfl) (by kernel_rfl) (by kernel_rfl) (by kernel_rfl) (by kernel_rfl) (by kernel_rfl) (by kernel_rfl) (fun _ _ _ h => h) (Or.inl ⟨by rfl, fun w hSw => ?_⟩) hld ?_
      · have kx := (hSw _ (List.mem_cons_self ..)).cell 4
        simp only [List.getElem?_toArray, List.getElem?_cons_zero, List.getElem?_cons_succ] at kx
        go_simp
      try simp only [Act.put, List.setIfInBounds_toArray, List.set_cons_zero, List.set_cons_succ]
      refine wpAnyG_cast #[true, true, true, true, true, true, true, true, true, false, false, false, false, false, false] (by kernel_rfl) ?_
      refine wpAnyG_pure (i := 9) (oi := ⟨some 43, _, _, _, _, _⟩) (v := .int .i64 (M : Int)) rfl (by kernel_rfl) (by kernel_rfl) (by kernel_rfl) (by kernel_rfl) (fun _ _ _ h => h) (Or.inl ⟨by rfl, fun w => ?_⟩) hld ?_
      · go_simp
      try simp only [Act.put, List.setIfInBounds_toArray, List.set_cons_zero, List.set_cons_succ]
      refine wpAnyG_cast #[true, true, true, true, true, true, true, true, true, true, false, false, false, false, false] (by kernel_rfl) ?_
      clear hld
      refine wpAnyG_have (fun a a' w' => ∃ (g0 : Nat) (Ax0 : Option Addr) (cx0 : Nat) (ps : List BRow), a' = ((a.put (some 44) (.slice (some ⟨g0, 0, none⟩) 1 1)).put (some 45) (.slice Ax0 (j + 1 + 1) cx0)) ∧ Bag X w' X.heap.size [⟨3, 1, .slice A4 M c4, M, (flL (T.take (j + 1))).map cF⟩, ⟨3, 1, .slice A5 M c5, M, (flL (T.take (j + 1))).map cC⟩, ⟨3, 1, .slice A6 M c6, M, (flL (T.take (j + 1))).map cL⟩, ⟨4, 1, .slice A7 M c7, M, (flL (T.take (j + 1))).map cB⟩, ⟨3, 1, .slice A8 M c8, M, (flL (T.take (j + 1))).map cV⟩, ⟨3, 1, .slice Ax0 (j + 1 + 1) cx0, j + 1 + 1, (flR T j).map cN ++ [.int .i64 (M : Int)]⟩] ps [⟨gF, 55, #[.int .i64 f', .int .i64 way', .slice A1 nw' d1', .slice Ar (j + 1) cr, .slice A4 M c4, .slice A5 M c5, .slice A6 M c6, .slice A7 M c7, .slice A8 M c8]⟩]) 3 #[true, true, true, true, true, true, true, true, true, true, true, true, false, false, false] ?_ (fun G1_0 => ?_)
      rotate_left
      refine wpAnyG_have (fun a a' w' => ∃ (g0 : Nat) (ps : List BRow), a' = (a.put (some 44) (.slice (some ⟨g0, 0, none⟩) 1 1)) ∧ (⟨3, 1, .slice (some ⟨g0, 0, none⟩) 1 1, 1, [.int .i64 (M : Int)]⟩ : BRow) ∈ ps ∧ Bag X w' X.heap.size [⟨3, 1, .slice A4 M c4, M, (flL (T.take (j + 1))).map cF⟩, ⟨3, 1, .slice A5 M c5, M, (flL (T.take (j + 1))).map cC⟩, ⟨3, 1, .slice A6 M c6, M, (flL (T.take (j + 1))).map cL⟩, ⟨4, 1, .slice A7 M c7, M, (flL (T.take (j + 1))).map cB⟩, ⟨3, 1, .slice A8 M c8, M, (flL (T.take (j + 1))).map cV⟩, ⟨3, 1, .slice Ar (j + 1) cr, j + 1, (flR T j).map cN⟩] ps [⟨gF, 55, #[.int .i64 f', .int .i64 way', .slice A1 nw' d1', .slice Ar (j + 1) cr, .slice A4 M c4, .slice A5 M c5, .slice A6 M c6, .slice A7 M c7, .slice A8 M c8]⟩]) 4 #[true, true, true, true, true, true, true, true, true, true, true, false, false, false, false] ?_ (fun G0_0 => ?_)
      · rintro a' w' ⟨g0, ps, rfl, q0, hBs⟩
        try simp only [Act.put, List.setIfInBounds_toArray, List.set_cons_zero, List.set_cons_succ]
        refine wpAnyG_all (rs := [11]) (by kernel_rfl) (by simp) (all_1 ?_)
        · refine wpOp_at (o := ⟨some 45, _, _, _, _, _⟩) rfl rfl ?_
          refine wp_append_bag elem_int hBs (.tmp 38) (.tmp 44) rfl 5 rfl rfl q0 rfl (by intro u hu; simp at hu; subst hu; rfl) (by omega) ?_
          intro Ax0 cx0 w' hBn
          refine ⟨fun _ => hBn.ld, ?_⟩
          refine wpAnyG_cast #[true, true, true, true, true, true, true, true, true, true, true, true, false, false, false] (by kernel_rfl) ?_
          exact G1_0 _ _ ⟨g0, Ax0, cx0, _, rfl, hBn⟩
      try simp only [Act.put, List.setIfInBounds_toArray, List.set_cons_zero, List.set_cons_succ]
      refine wpAnyG_all (rs := [10]) (by kernel_rfl) (by simp) (all_1 ?_)
      · refine wpOp_step (o := ⟨some 44, _, _, _, _, _⟩) rfl rfl (fun K hK => ?_)
        go_simp
        have hBn := hBd.push 3 1 1 [.int .i64 (M : Int)] rfl (by unfold maxLen; omega) rfl
        refine hK _ _ ⟨fun _ => hBn.ld, ?_⟩
        refine wpAnyG_cast #[true, true, true, true, true, true, true, true, true, true, true, false, false, false, false] (by kernel_rfl) ?_
        exact G0_0 _ _ ⟨_, _, rfl, List.mem_cons_self .., hBn⟩
      rintro a' w' ⟨g0, Ax0, cx0, ps, rfl, hBs⟩
      try simp only [Act.put, List.setIfInBounds_toArray, List.set_cons_zero, List.set_cons_succ]
      refine wpAnyG_one 12 (o := ⟨some 46, _, _, _, _, _⟩) (by kernel_rfl) rfl rfl (fun K hK => ?_)
      go_simp
      refine hK _ _ ⟨fun _ => (hBs).ld, ?_⟩
      clear hK K
      try simp only [Act.put, List.setIfInBounds_toArray, List.set_cons_zero, List.set_cons_succ]
      refine wpAnyG_cast #[true, true, true, true, true, true, true, true, true, true, true, true, true, false, false] (by kernel_rfl) ?_
      refine wpAnyG_one 13 (o := ⟨some 47, _, _, _, _, _⟩) (by kernel_rfl) rfl rfl (fun K hK => ?_)
      go_simp
      refine hK _ _ ⟨fun _ => (hBs).ld, ?_⟩
      clear hK K
      try simp only [Act.put, List.setIfInBounds_toArray, List.set_cons_zero, List.set_cons_succ]
      refine wpAnyG_cast #[true, true, true, true, true, true, true, true, true, true, true, true, true, true, false] (by kernel_rfl) ?_
      have kc := ((hBs).blk _ (List.mem_cons_self ..)).1.cell 3
      have kf := ((hBs).blk _ (List.mem_cons_self ..)).1.frozen 3
      simp only [List.getElem?_toArray, List.getElem?_cons_zero, List.getElem?_cons_succ] at kc
      refine wpAnyG_one 14 (o := ⟨none, _, _, _, _, _⟩) (by kernel_rfl) rfl rfl (fun K hK => ?_)
      go_simp
      have hBt0 : Bag X (_ : World) X.heap.size [⟨3, 1, .slice A4 M c4, M, (flL (T.take (j + 1))).map cF⟩, ⟨3, 1, .slice A5 M c5, M, (flL (T.take (j + 1))).map cC⟩, ⟨3, 1, .slice A6 M c6, M, (flL (T.take (j + 1))).map cL⟩, ⟨4, 1, .slice A7 M c7, M, (flL (T.take (j + 1))).map cB⟩, ⟨3, 1, .slice A8 M c8, M, (flL (T.take (j + 1))).map cV⟩, ⟨3, 1, .slice Ax0 (j + 1 + 1) cx0, j + 1 + 1, (flR T j).map cN ++ [.int .i64 (M : Int)]⟩] ps [⟨gF, 55, #[.int .i64 f', .int .i64 way', .slice A1 nw' d1', .slice Ax0 (j + 1 + 1) cx0, .slice A4 M c4, .slice A5 M c5, .slice A6 M c6, .slice A7 M c7, .slice A8 M c8]⟩] := (hBs).store 0 3 (.slice Ax0 (j + 1 + 1) cx0) rfl
      clear kc kf
      refine hK _ _ ⟨noneUp_no (by kernel_rfl), ?_⟩
      clear hK K
      try simp only [Act.put, List.setIfInBounds_toArray, List.set_cons_zero, List.set_cons_succ]
      refine wpAnyG_cast #[true, true, true, true, true, true, true, true, true, true, true, true, true, true, true] (by kernel_rfl) ?_
      refine wpAnyG_done (by kernel_rfl) ?_ _
      have hBz := hBt0.forget
      have HR1 : Hid ((flR T (j + 1)).map cN = (flR T j).map cN ++ [.int .i64 (M : Int)]) := hide (by rw [flR_snoc, List.map_append, ← unhide HM0]; rfl)
      have hFB := fnew_conv (unhide HML) hBz
      rw [← unhide HR1] at hFB
      have HFB := hide hFB
      clear hFB hBz hBt0 hBs hBX hBd
      go_wp2_with fail
      go_roundw
      case rel => exact ⟨j + 1, Ax0, cx0, by omega, by go_num, unhide HFB⟩
      case measure => simp [Lib.intOf]; omega
    · obtain rfl : j = nt' := by omega
      have hbw : Below X.heap.size X wr := by obtain ⟨_, _, _, _, _, _, _, _, _, _, h⟩ := hF; exact h.bel
      have hrc : j + 1 ≤ cr := by
        obtain ⟨A4, A5, A6, A7, A8, c4, c5, c6, c7, c8, h⟩ := hF
        have ho := h.own ⟨3, 1, .slice Ar (j + 1) cr, j + 1, (flR T j).map cN⟩ (List.mem_append_left _ (List.mem_of_getElem? (i := 5) rfl))
        obtain ⟨_, _, e, _, _, h4⟩ := own_slice ho
        cases e
        exact h4
      have hI := hide (hF.is (unhide hwr) (Nat.le_refl _) hnw' (unhide hnil') hrc)
      have HB := hide (hBx.trans (hbw.mono (by omega)))
      clear hF hbw
      go_wp2_with fail
      go_ret2
      refine unhide HP gF wr ?_ hgw (unhide HB)
      have h1 := unhide hI
      rw [List.take_of_length_le (by rw [unhide HNT]; exact Nat.le_refl _)] at h1
      rw [unhide HNT]
      exact h1
end Go.Proofs.YtcneacooedefjaaDoor
