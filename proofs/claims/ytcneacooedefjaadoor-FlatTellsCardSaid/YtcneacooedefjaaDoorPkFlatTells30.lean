/- Part 30 of what LawFlatTells needs: FlatGrove. Conditions: as each lemma names. -/
import Derived.Test.YtcneacooedefjaaDoorPkFlatTells28
/- flat.Grove: the grove of which a flat one tells, each tree level by level. Conditions: a flat one that reads as data. -/
namespace Go.Proofs.YtcneacooedefjaaDoor
set_option linter.unusedVariables false
set_option linter.unusedSimpArgs false
open Go.RowKit

theorem apart_types {w : World} {base base' : Nat} {e e' : TypeId} {z z' n n' : Nat} {v v' : Value} {xs xs' : List Value} (h : w.ownsRow base e z v n xs) (h' : w.ownsRow base' e' z' v' n' xs') (hne : e ≠ e') : Apart v v' := by
  intro k hk hk'
  rcases h'.2 with ⟨rfl, _⟩ | ⟨g', cap, cur, rfl, _, hh, _⟩
  · simp [Value.ownBlock] at hk'
  · have e1 : g' = k := by simpa [Value.ownBlock] using hk'
    subst e1
    exact own_blk_ne (g := g') (t := e') (cs := cur) h hh hne hk
theorem Bag.add {w0 w : World} {base : Nat} {rs ps : List BRow} {bs : List Bk} (h : Bag w0 w base rs ps bs) {e : TypeId} {z n : Nat} {v : Value} {xs : List Value} (ho : w.ownsRow base e z v n xs) (ha : ∀ r ∈ rs ++ ps, Apart v r.v) (hf : farB e bs = true) : Bag w0 w base (⟨e, z, v, n, xs⟩ :: rs) ps bs :=
  ⟨fun r hr => by
    rcases List.mem_cons.1 hr with rfl | hr
    · exact ho
    · exact h.own r hr, List.pairwise_cons.2 ⟨ha, h.apart⟩, h.blk, fun r hr => by
    rcases List.mem_cons.1 hr with rfl | hr
    · exact fun b hb => own_blk_ne ho (h.blk b hb).1 (far_ne hf hb)
    · exact h.ne r hr, h.bne, h.low, h.bel⟩
theorem Bag.swap {w0 w : World} {base : Nat} {a b : BRow} {rs ps : List BRow} {bs : List Bk} (h : Bag w0 w base (a :: b :: rs) ps bs) : Bag w0 w base (b :: a :: rs) ps bs := by
  have hp := h.apart
  simp only [List.cons_append, List.pairwise_cons, List.mem_cons] at hp
  refine ⟨fun r hr => h.own r ?_, ?_, h.blk, fun r hr => h.ne r ?_, h.bne, h.low, h.bel⟩
  · simp only [List.cons_append, List.mem_cons] at hr ⊢
    rcases hr with h1 | h1 | h1
    · exact .inr (.inl h1)
    · exact .inl h1
    · exact .inr (.inr h1)
  · simp only [List.cons_append, List.pairwise_cons, List.mem_cons]
    refine ⟨fun s hs => ?_, fun s hs => hp.1 s (.inr hs), hp.2.2⟩
    rcases hs with rfl | hs
    · exact (hp.1 b (.inl rfl)).symm
    · exact hp.2.1 s hs
  · simp only [List.cons_append, List.mem_cons] at hr ⊢
    rcases hr with h1 | h1 | h1
    · exact .inr (.inl h1)
    · exact .inl h1
    · exact .inr (.inr h1)
theorem gr_add {w0 w1 : World} {base : Nat} {bs : List Bk} {e e' : TypeId} {n n' : Nat} {v v' : Value} {xs xs' : List Value} {X : World} (h : Bag w0 w1 base [] [] bs) (o1 : w1.ownsRow X.heap.size e 1 v n xs) (o3 : w1.ownsRow X.heap.size e' 1 v' n' xs') (hb : Below X.heap.size X w1) (hl : base ≤ X.heap.size) (hne : e' ≠ e) (hf : farB e bs = true) (hf' : farB e' bs = true) :
    Bag w0 w1 base [⟨e', 1, v', n', xs'⟩, ⟨e, 1, v, n, xs⟩] [] bs :=
  (h.add (own_low o1 hl) (fun r hr => by simp at hr) hf).add (own_low o3 hl) (fun r hr => by
    simp at hr
    subst hr
    exact apart_types o3 o1 hne) hf'
theorem cell_set4 {w : World} {g : Nat} {a b c d : Value} {q o : Nat} {v : Value} (h : w.cell? ⟨q, o, none⟩ = some v) (hne : q ≠ g) : ((((w.setCell ⟨g, 0, none⟩ a).setCell ⟨g, 1, none⟩ b).setCell ⟨g, 2, none⟩ c).setCell ⟨g, 3, none⟩ d).cell? ⟨q, o, none⟩ = some v := by
  rw [World.cell?_of_block (Below.heap_setCell _ _ _ _ hne), World.cell?_of_block (Below.heap_setCell _ _ _ _ hne), World.cell?_of_block (Below.heap_setCell _ _ _ _ hne), World.cell?_of_block (Below.heap_setCell _ _ _ _ hne)]
  exact h
/-- a tree as a row -/
def trow (r : Tr) : BRow := ⟨41, 6, r.val, r.n, r.l.flatMap Nd.cells⟩
/-- the grove while its trees come: the row of trees, the trees' own rows, its box and the result's -/
def GBag (w0 w : World) (base g0 gb : Nat) (f way : Int) (Aw : Option Addr) (nw cw : Nat) (ws : List Int) (At : Option Addr) (j ct : Nat) (trs : List Tr) : Prop :=
  ∃ kr : List BRow, (∀ r ∈ trs, trow r ∈ kr) ∧ ⟨3, 1, .slice Aw nw cw, nw, ws.map (Value.int .i64)⟩ ∈ kr ∧ Bag w0 w base (⟨42, 1, .slice At j ct, j, trs.map Tr.val⟩ :: kr) []
    [⟨gb, 25, #[.int .i64 f, .int .i64 way, .slice Aw nw cw, .slice At j ct]⟩, ⟨g0, 25, #[.int .i64 0, .int .i64 0, .slice none 0 0, .slice none 0 0]⟩]
theorem gbag_next {w0 w : World} {base g0 gb : Nat} {f way : Int} {Aw : Option Addr} {nw cw : Nat} {ws : List Int} {At A9 : Option Addr} {j ct c9 : Nat} {trs : List Tr} {r : Tr} {kr ps : List BRow} (h1 : ∀ r ∈ trs, trow r ∈ kr) (h2 : ⟨3, 1, .slice Aw nw cw, nw, ws.map (Value.int .i64)⟩ ∈ kr)
    (h : Bag w0 w base ((trow r :: ⟨42, 1, .slice At j ct, j, trs.map Tr.val⟩ :: kr).set 1 ⟨42, 1, .slice A9 (j + 1) c9, j + 1, trs.map Tr.val ++ [r.val]⟩) ps
      [⟨gb, 25, #[.int .i64 f, .int .i64 way, .slice Aw nw cw, .slice At j ct]⟩, ⟨g0, 25, #[.int .i64 0, .int .i64 0, .slice none 0 0, .slice none 0 0]⟩]) :
    GBag w0 (w.setCell ⟨gb, 3, none⟩ (.slice A9 (j + 1) c9)) base g0 gb f way Aw nw cw ws A9 (j + 1) c9 (trs ++ [r]) := by
  refine ⟨trow r :: kr, fun s hs => ?_, List.mem_cons_of_mem _ h2, ?_⟩
  · rcases List.mem_append.1 hs with hs | hs
    · exact List.mem_cons_of_mem _ (h1 s hs)
    · rw [List.mem_singleton.1 hs]; exact List.mem_cons_self ..
  · rw [List.map_append]
    exact ((h.store 0 3 (.slice A9 (j + 1) c9) rfl).forget).swap
theorem gbag_reads {w0 w : World} {base : Nat} {f way : Int} {Aw : Option Addr} {nw cw : Nat} {ws : List Int} {At : Option Addr} {j ct : Nat} {trs : List Tr} {kr ps : List BRow} {bs : List Bk} (h1 : ∀ r ∈ trs, trow r ∈ kr) (h2 : ⟨3, 1, .slice Aw nw cw, nw, ws.map (Value.int .i64)⟩ ∈ kr)
    (h : Bag w0 w base (⟨42, 1, .slice At j ct, j, trs.map Tr.val⟩ :: kr) ps bs) : GReads w w.heap.size ⟨f, way, Aw, nw, cw, ws, At, j, ct, trs⟩ := by
  have ho := h.own _ (List.mem_append_left _ (List.mem_cons_self ..))
  have hw := h.own _ (List.mem_append_left _ (List.mem_cons_of_mem _ h2))
  refine ⟨Reads.of_own hw, ⟨Reads.of_own ho, fun r hr => ?_⟩, own_len hw, own_len ho, fun e => ?_, fun e => ?_⟩
  · have hr' := h.own _ (List.mem_append_left _ (List.mem_cons_of_mem _ (h1 r hr)))
    refine ⟨Reads.of_own hr', own_len hr', fun e => ?_⟩
    simp only [trow, Tr.val] at hr'
    rw [e] at hr'
    exact (own_nil hr').1
  · dsimp only at e hw
    rw [e] at hw
    exact (own_nil hw).1
  · dsimp only at e ho
    rw [e] at ho
    exact (own_nil ho).1
def FGrovePost (f way : Int) (ws : List Int) (ts : List (List Nd)) (w : World) (e : Ending) (w' : World) : Prop :=
  ∃ g : Gv, e = .returned g.val ∧ g.f = f ∧ g.way = way ∧ g.ws = ws ∧ g.trees = ts.map flatT ∧ GReads w' w'.heap.size g ∧ Below w.heap.size w w'
theorem rd_cell {w w' : World} {b o : Nat} {v : Value} (h : w.cell? ⟨b, o, none⟩ = some v) (hb : Below b.succ w w') : w'.cell? ⟨b, o, none⟩ = some v := (hb.cell (p := ⟨b, o, none⟩) (Nat.lt_succ_self b)).trans h

set_option maxRecDepth 100000 in
set_option maxHeartbeats 8000000 in
theorem fgrove_any (gF : Nat) (f way : Int) (ws : List Int) (ts : List (List Nd)) (fe : Int) (w : World) (hF : FlIs w w.heap.size gF f way ws (flR ts ts.length) (flL ts))
    (hR : ∀ t ∈ ts, Right t fe) (hpos : 0 < ts.length) (h12 : ts.length ≤ 12) (hwl : ws.length = ts.length) :
    Calls Tryd.prog 7 #[.pointer (some ⟨gF, 0, none⟩)] w (FGrovePost f way ws ts w) := by
  obtain ⟨Aw, nw, cw, Ar, nr, cr, A4, A5, A6, A7, A8, c4, c5, c6, c7, c8, hb, hlt, ⟨hw1, hw2, hw3⟩, ⟨hr1, hr2⟩, h4, h5, h6, h7, h8⟩ := hF
  have hnr : nr = ts.length + 1 := by have := hr1.1; rw [List.length_map, flR_len] at this; omega
  have hnw : nw = ts.length := by have := hw1.len; omega
  have HR := hide hR
  have hLn : 0 < (flL ts).length ∧ (flL ts).length ≤ 756 := by
    have h1 := flPre_le (ts := ts) hR ts.length
    have h2 := (hR _ (List.getElem_mem hpos)).pos
    obtain ⟨y, hy⟩ : ∃ y, (flatT (ts[0]'hpos))[0]? = some y := ⟨_, List.getElem?_eq_getElem (by rw [(hR _ (List.getElem_mem hpos)).flatLen]; exact h2)⟩
    have h3 := flL_at ts.length (ts := ts) (k := 0) (j := 0) hpos (List.getElem?_eq_getElem hpos) hy
    rw [List.take_length] at h3
    have h4 := (List.getElem?_eq_some_iff.1 h3).1
    unfold flPre at h1
    rw [List.take_length] at h1
    omega
  obtain ⟨L, hL⟩ : ∃ L, L = flL ts := ⟨_, rfl⟩
  have HAT : Hid (∀ (k j : Nat) (t : List Nd) (x : Nd), ts[k]? = some t → (flatT t)[j]? = some x → L[flPre ts k + j]? = some (fsh (flPre ts k) x)) := hide (fun k j t x ht hx => by
    have := flL_at ts.length (List.getElem?_eq_some_iff.1 ht).1 ht hx
    rw [List.take_length] at this
    rw [hL]; exact this)
  rw [← hL] at hb h4 h5 h6 h7 h8 hLn
  obtain ⟨N, hN⟩ : ∃ N, N = L.length := ⟨_, rfl⟩
  rw [← hN] at hb h4 h5 h6 h7 h8 hLn
  obtain ⟨bR, oR, rfl, lR, hcR⟩ := Reads.spot hr1 (by omega) Nat.zero_lt_one
  obtain ⟨b4, o4, rfl, l4, hc4⟩ := Reads.spot h4 (by omega) Nat.zero_lt_one
  obtain ⟨b5, o5, rfl, l5, hc5⟩ := Reads.spot h5 (by omega) Nat.zero_lt_one
  obtain ⟨b6, o6, rfl, l6, hc6⟩ := Reads.spot h6 (by omega) Nat.zero_lt_one
  obtain ⟨b7, o7, rfl, l7, hc7⟩ := Reads.spot h7 (by omega) Nat.zero_lt_one
  obtain ⟨b8, o8, rfl, l8, hc8⟩ := Reads.spot h8 (by omega) Nat.zero_lt_one
  have HROW : Hid (∀ (p : Nat) (x : Nd), L[p]? = some x → p < N ∧ w.cell? ⟨b4, o4 + p, none⟩ = some (.int .i64 x.f) ∧ w.cell? ⟨b5, o5 + p, none⟩ = some (.int .i64 x.c) ∧ w.cell? ⟨b6, o6 + p, none⟩ = some (.int .i64 x.l) ∧ w.cell? ⟨b7, o7 + p, none⟩ = some (.bool x.less) ∧ w.cell? ⟨b8, o8 + p, none⟩ = some (.int .i64 x.v)) := hide (fun p x hx =>
    ⟨by rw [hN]; exact (List.getElem?_eq_some_iff.1 hx).1, hc4 p _ (by rw [List.getElem?_map, hx]; rfl), hc5 p _ (by rw [List.getElem?_map, hx]; rfl), hc6 p _ (by rw [List.getElem?_map, hx]; rfl), hc7 p _ (by rw [List.getElem?_map, hx]; rfl), hc8 p _ (by rw [List.getElem?_map, hx]; rfl)⟩)
  have HRT : Hid (∀ k, k ≤ ts.length → w.cell? ⟨bR, oR + k, none⟩ = some (.int .i64 (flPre ts k : Nat))) := hide (fun k hk => hcR k _ (by rw [List.getElem?_map, flR_at ts hk]; rfl))
  obtain ⟨nt, hnt⟩ : ∃ nt, nt = ts.length := ⟨_, rfl⟩
  have HNT := hide hnt
  rw [← hnt] at hnr hnw hpos h12 hwl
  rw [← hnt] at HRT
  subst hnr
  subst hnw
  have x0 := hb.cell 0
  have x1 := hb.cell 1
  have x2 := hb.cell 2
  have x3 := hb.cell 3
  have x4 := hb.cell 4
  have x5 := hb.cell 5
  have x6 := hb.cell 6
  have x7 := hb.cell 7
  have x8 := hb.cell 8
  simp only [cellsF, List.getElem?_toArray, List.getElem?_cons_zero, List.getElem?_cons_succ] at x0 x1 x2 x3 x4 x5 x6 x7 x8
  have HX : Hid (w.cell? ⟨gF, 0, none⟩ = some (.int .i64 f) ∧ w.cell? ⟨gF, 3, none⟩ = some (.slice (some ⟨bR, oR, none⟩) (nw + 1) cr) ∧ w.cell? ⟨gF, 4, none⟩ = some (.slice (some ⟨b4, o4, none⟩) N c4) ∧ w.cell? ⟨gF, 5, none⟩ = some (.slice (some ⟨b5, o5, none⟩) N c5) ∧ w.cell? ⟨gF, 6, none⟩ = some (.slice (some ⟨b6, o6, none⟩) N c6) ∧ w.cell? ⟨gF, 7, none⟩ = some (.slice (some ⟨b7, o7, none⟩) N c7) ∧ w.cell? ⟨gF, 8, none⟩ = some (.slice (some ⟨b8, o8, none⟩) N c8)) := hide ⟨x0, x3, x4, x5, x6, x7, x8⟩
  have hcl : Hid (∀ X, Below w.heap.size w X → Calls Tryd.prog 19 #[.agg #[.int .i64 f, .int .i64 way, .slice Aw nw cw, .slice none 0 0]] X fun e w' => ∃ (A1 A3 : Option Addr) (d1 d3 : Nat), e = .returned (.agg #[.int .i64 f, .int .i64 way, .slice A1 nw d1, .slice A3 0 d3]) ∧ w'.ownsRow X.heap.size 3 1 (.slice A1 nw d1) nw (ws.map (Value.int .i64)) ∧ w'.ownsRow X.heap.size 42 1 (.slice A3 0 d3) 0 [] ∧ Below X.heap.size X w') := hide (fun X hB => by
    have hgr : GReads X X.heap.size ⟨f, way, Aw, nw, cw, ws, none, 0, 0, []⟩ := ⟨(hw1.below hB).more hB.size, ⟨Reads.none_, fun r hr => by cases hr⟩, hw2, Nat.zero_le _, hw3, fun _ => rfl⟩
    refine (gclone_any _ X hgr (by show nw ≤ _; omega) (by show 0 ≤ _; omega) (fun r hr => by cases hr)).mono ?_
    rintro e w' ⟨g', rfl, e1, e2, e3, e4, hown, hb'⟩
    obtain ⟨f', way', A1, nw', d1, ws', A3, nt', d3, ts'⟩ := g'
    dsimp only at e1 e2 e3
    subst e1; subst e2; subst e3
    have e5 : ts' = [] := by
      have : ts'.map Tr.l = [] := e4
      simpa using this
    subst e5
    have o3 : w'.ownsRow X.heap.size 42 1 (.slice A3 nt' d3) nt' [] := hown.ts
    have hn0 : nt' = 0 := by have := o3.1; simpa using this.symm
    subst hn0
    have o1 : w'.ownsRow X.heap.size 3 1 (.slice A1 nw' d1) nw' (ws'.map (Value.int .i64)) := hown.ws
    have hl1 : ws'.length = nw' := by have := o1.1; simpa using this
    have hnw' : nw' = nw := by omega
    subst hnw'
    exact ⟨A1, A3, d1, d3, rfl, o1, o3, hb'⟩)
  have s1 : IntKind.i64.wrap ((nw + 1 : Nat) - 1 : Int) = (nw : Int) := by rw [IntKind.wrap_i64]; omega
  have s2 : (0 : Int) ≤ (nw : Int) := by omega
  have s3 : ((nw : Int)).toNat = nw := by omega
  have s4 : nw ≤ cr := by omega
  have hnc : ¬ cr = 0 := by omega
  have x2 := hb.cell 2
  simp only [cellsF, List.getElem?_toArray, List.getElem?_cons_zero, List.getElem?_cons_succ] at x2
  have hz0 : w.heap.size ≤ (w.alloc (.cells #[.int .i64 0, .int .i64 0, .slice none 0 0, .slice none 0 0] 25)).heap.size := by simp
  have m0 := cell_alloc x0 hlt
  have m1 := cell_alloc x1 hlt
  have m2 := cell_alloc x2 hlt
  clear h4 h5 h6 h7 h8 hr1 hw1 hw2 hw3 hR hL hN hwl hc4 hc5 hc6 hc7 hc8 hcR hnt hb x3 x4 x5 x6 x7 x8
  go_enter Tryd.func7, Tryd.ntmps7
  go_upto_region 1 with (fail)
  go_cut [3] (fun s3 wx => ∃ (gb : Nat) (A1 A3 : Option Addr) (d1 d3 : Nat), s3 = .pointer (some ⟨gb, 0, none⟩) ∧ GBag w wx w.heap.size w.heap.size gb f way A1 nw d1 ws A3 0 d3 [])
  case first =>
    have hB0 := ((Bag.start w).box 25 #[.int .i64 0, .int .i64 0, .slice none 0 0, .slice none 0 0] rfl).drew
    have hB1 := (((Bag.start w).box 25 #[.int .i64 0, .int .i64 0, .slice none 0 0, .slice none 0 0] rfl).box 25 #[.int .i64 0, .int .i64 0, .slice none 0 0, .slice none 0 0] rfl).drew
    simp only [World.size_alloc] at hB1
    have p0 := fun o => cell_alloc (m0 (.cells #[.int .i64 0, .int .i64 0, .slice none 0 0, .slice none 0 0] 25)) (by simp; omega) o
    have p1 := fun o => cell_alloc (m1 (.cells #[.int .i64 0, .int .i64 0, .slice none 0 0, .slice none 0 0] 25)) (by simp; omega) o
    have p2 := fun o => cell_alloc (m2 (.cells #[.int .i64 0, .int .i64 0, .slice none 0 0, .slice none 0 0] 25)) (by simp; omega) o
    have hg0 := Nat.lt_of_lt_of_le hlt hB0.low
    have hg1 := Nat.lt_of_lt_of_le hlt hB1.low
    have md0 : ∀ o, (w.alloc o).drew.cell? ⟨gF, 0, none⟩ = some (.int .i64 f) := fun o => m0 o
    have pd0 : ∀ o, ((w.alloc (.cells #[.int .i64 0, .int .i64 0, .slice none 0 0, .slice none 0 0] 25)).alloc o).drew.cell? ⟨gF, 0, none⟩ = some (.int .i64 f) := fun o => p0 o
    have q0 := md0
    have r0 := fun (a b c d : Nat) => md0
    have md1 : ∀ o, (w.alloc o).drew.cell? ⟨gF, 1, none⟩ = some (.int .i64 way) := fun o => m1 o
    have pd1 : ∀ o, ((w.alloc (.cells #[.int .i64 0, .int .i64 0, .slice none 0 0, .slice none 0 0] 25)).alloc o).drew.cell? ⟨gF, 1, none⟩ = some (.int .i64 way) := fun o => p1 o
    have q1 := md1
    have r1 := fun (a b c d : Nat) => md1
    have md2 : ∀ o, (w.alloc o).drew.cell? ⟨gF, 2, none⟩ = some (.slice Aw nw cw) := fun o => m2 o
    have pd2 : ∀ o, ((w.alloc (.cells #[.int .i64 0, .int .i64 0, .slice none 0 0, .slice none 0 0] 25)).alloc o).drew.cell? ⟨gF, 2, none⟩ = some (.slice Aw nw cw) := fun o => p2 o
    have q2 := md2
    have r2 := fun (a b c d : Nat) => md2
    have hgne : gF ≠ w.heap.size + 1 := by omega
    have hne1 : (42 : TypeId) ≠ 3 := by decide
    go_region_held3 (fun w' => w'.cell? ⟨gF, 0, none⟩ = some (.int .i64 f) ∧ w'.cell? ⟨gF, 1, none⟩ = some (.int .i64 way) ∧ w'.cell? ⟨gF, 2, none⟩ = some (.slice Aw nw cw))
      ((refine ⟨?_, ?_, ?_⟩ <;> first | with_reducible assumption | with_reducible exact md0 _ | with_reducible exact md1 _ | with_reducible exact md2 _ | with_reducible exact pd0 _ | with_reducible exact pd1 _ | with_reducible exact pd2 _ | with_reducible exact q0 _ | with_reducible exact q1 _ | with_reducible exact q2 _ | with_reducible exact r0 _ _ _ _ | with_reducible exact r1 _ _ _ _ | with_reducible exact r2 _ _ _ _))
      (first
        | (go_at_call 19
           (with_reducible refine (unhide hcl _ hB0.bel).mono ?_)
           rintro e w1 ⟨A1, A3, d1, d3, rfl, o1, o3, hb1⟩
           have n0 : w1.cell? ⟨gF, 0, none⟩ = some (.int .i64 f) := (hb1.cell (p := ⟨gF, 0, none⟩) hg0).trans (m0 _)
           have n1 : w1.cell? ⟨gF, 1, none⟩ = some (.int .i64 way) := (hb1.cell (p := ⟨gF, 1, none⟩) hg0).trans (m1 _)
           have n2 : w1.cell? ⟨gF, 2, none⟩ = some (.slice Aw nw cw) := (hb1.cell (p := ⟨gF, 2, none⟩) hg0).trans (m2 _)
           have hgw := Nat.lt_of_lt_of_le hg0 hb1.size
           have q0 := fun o => cell_alloc n0 hgw o
           have r0 := fun a b c d => cell_set4 (a := a) (b := b) (c := c) (d := d) n0 hgne
           have q1 := fun o => cell_alloc n1 hgw o
           have r1 := fun a b c d => cell_set4 (a := a) (b := b) (c := c) (d := d) n1 hgne
           have q2 := fun o => cell_alloc n2 hgw o
           have r2 := fun a b c d => cell_set4 (a := a) (b := b) (c := c) (d := d) n2 hgne
           have hBa := hB0.below hb1
           have hBn := gr_add hBa o1 o3 hb1 hB0.low hne1 rfl rfl)
        | (go_at_call 19
           (with_reducible refine (unhide hcl _ hB1.bel).mono ?_)
           rintro e w1 ⟨A1, A3, d1, d3, rfl, o1, o3, hb1⟩
           have n0 : w1.cell? ⟨gF, 0, none⟩ = some (.int .i64 f) := (hb1.cell (p := ⟨gF, 0, none⟩) hg1).trans (p0 _)
           have n1 : w1.cell? ⟨gF, 1, none⟩ = some (.int .i64 way) := (hb1.cell (p := ⟨gF, 1, none⟩) hg1).trans (p1 _)
           have n2 : w1.cell? ⟨gF, 2, none⟩ = some (.slice Aw nw cw) := (hb1.cell (p := ⟨gF, 2, none⟩) hg1).trans (p2 _)
           have hgw := Nat.lt_of_lt_of_le hg1 hb1.size
           have q0 := fun o => cell_alloc n0 hgw o
           have r0 := fun a b c d => cell_set4 (a := a) (b := b) (c := c) (d := d) n0 hgne
           have q1 := fun o => cell_alloc n1 hgw o
           have r1 := fun a b c d => cell_set4 (a := a) (b := b) (c := c) (d := d) n1 hgne
           have q2 := fun o => cell_alloc n2 hgw o
           have r2 := fun a b c d => cell_set4 (a := a) (b := b) (c := c) (d := d) n2 hgne
           have hBb := hB1.below hb1
           have hBn := gr_add hBb o1 o3 hb1 hB1.low hne1 rfl rfl
           have kb := (hBb.blk _ (List.mem_cons_self ..)).1
           have ka0 := kb.cell 0
           have ka1 := kb.cell 1
           have ka2 := kb.cell 2
           have ka3 := kb.cell 3
           have kf0 := kb.frozen 0
           have kf1 := kb.frozen 1
           have kf2 := kb.frozen 2
           have kf3 := kb.frozen 3
           simp at ka0 ka1 ka2 ka3))
    · have hBz := hBn.box 25 #[.int .i64 f, .int .i64 way, .slice A1 nw d1, .slice A3 0 d3] rfl
      go_wp2_with fail
      go_meet
      exact ⟨_, A1, A3, d1, d3, rfl, [⟨3, 1, .slice A1 nw d1, nw, ws.map (Value.int .i64)⟩], fun r hr => by (cases hr), List.mem_cons_self .., hBz⟩
    · have hBz := (((hBn.store 0 0 (.int .i64 f) rfl).store 0 1 (.int .i64 way) rfl).store 0 2 (.slice A1 nw d1) rfl).store 0 3 (.slice A3 0 d3) rfl
      go_wp2_with fail
      go_meet
      exact ⟨_, A1, A3, d1, d3, rfl, [⟨3, 1, .slice A1 nw d1, nw, ws.map (Value.int .i64)⟩], fun r hr => by (cases hr), List.mem_cons_self .., hBz⟩
  case rest =>
    obtain ⟨gb, A1, A3, d1, d3, rfl, hG⟩ := hcut
    have hbel : Below w.heap.size w wc := by obtain ⟨_, _, _, h⟩ := hG; exact h.bel
    obtain ⟨x0, x3, x4, x5, x6, x7, x8⟩ := unhide HX
    have e3 := (hbel.cell (p := ⟨gF, 3, none⟩) hlt).trans x3
    clear m0 m1 m2 x0 x1 x2 x3 x4 x5 x6 x7 x8 hcl
    go_upto_region 2 with (fail)
    go_quiet (fail)
    go_wp2_with fail
    clear s1 s2 s3 e3
    go_loopw [35] (fun v wr => ∃ (j : Nat) (At : Option Addr) (ct : Nat) (trs : List Tr), j ≤ nw ∧ v = .int .i64 j ∧ GBag w wr w.heap.size w.heap.size gb f way A1 nw d1 ws At j ct trs ∧ trs.map Tr.l = (ts.take j).map flatT) (fun v _ => nw - (Lib.intOf v).toNat)
    case atStart =>
      obtain ⟨kr, h1, h2, h3⟩ := hG
      exact ⟨0, A3, d3, [], Nat.zero_le _, rfl, ⟨kr, h1, h2, h3.drewN _⟩, rfl⟩
    case round =>
      clear hG hbel
      obtain ⟨j, At, ct, trs, hj, rfl, ⟨kr, hk1, hk2, hB⟩, htrs⟩ := hrel
      have HTRS := hide htrs
      have HK1 := hide hk1
      have HK2 := hide hk2
      clear htrs hk1 hk2
      obtain ⟨x0, x3, x4, x5, x6, x7, x8⟩ := unhide HX
      by_cases hlj : j < nw
      · have hbel := hB.bel
        have kr1 := (hbel.cell (p := ⟨bR, oR + j, none⟩) lR).trans (unhide HRT j (by omega))
        obtain ⟨t, ht⟩ : ∃ t, ts[j]? = some t := ⟨_, List.getElem?_eq_getElem (by rw [← unhide HNT]; exact hlj)⟩
        have hRt := hide (unhide HR t (List.mem_of_getElem? ht))
        have hps := flPre_succ ht (unhide hRt)
        obtain ⟨pre, hpre⟩ : ∃ pre, pre = flPre ts j := ⟨_, rfl⟩
        obtain ⟨pm, hpm⟩ : ∃ pm, pm = flPre ts (j + 1) := ⟨_, rfl⟩
        have HKR : Hid (w.cell? ⟨bR, oR + (j + 1), none⟩ = some (.int .i64 (pm : Int))) := hide (by rw [hpm]; exact unhide HRT (j + 1) (by omega))
        have HXX : Hid (∀ (p : Nat) (x : Nd), (flatT t)[p]? = some x → L[pre + p]? = some (fsh pre x)) := hide (fun p x hx => by rw [hpre]; exact unhide HAT j p t x ht hx)
        rw [← hpre] at kr1 hps
        rw [← hpm] at hps
        have hm63 := (unhide hRt).most
        have HT := hide ht
        have HPS := hide hps
        have hpm63 : pm ≤ pre + 63 := by omega
        have hB0 := hB.nil_ 41 6 rfl
        clear hpre hpm ht hps hB x0 x3 x4 x5 x6 x7 x8
        go_wp2_with fail
        obtain ⟨wo, hwo⟩ : ∃ wo, wo = wr := ⟨_, rfl⟩
        subst hwo
        go_loopw [6, 7] (fun v6 v7 wr => ∃ (p : Nat) (Aq : Option Addr) (cq : Nat), p ≤ t.length ∧ v6 = .slice Aq p cq ∧ v7 = .int .i64 ((pre + p : Nat) : Int) ∧ Bag w wr w.heap.size (⟨41, 6, .slice Aq p cq, p, ((flatT t).take p).flatMap Nd.cells⟩ :: ⟨42, 1, .slice At j ct, j, trs.map Tr.val⟩ :: kr) []
          [⟨gb, 25, #[.int .i64 f, .int .i64 way, .slice A1 nw d1, .slice At j ct]⟩, ⟨w.heap.size, 25, #[.int .i64 0, .int .i64 0, .slice none 0 0, .slice none 0 0]⟩]) (fun _ v7 _ => pre + 64 - (Lib.intOf v7).toNat)
        case atStart => exact ⟨0, none, 0, Nat.zero_le _, rfl, rfl, hB0⟩
        case round =>
          clear hB0 kr1 hbel
          obtain ⟨p, Aq, cq, hp, rfl, rfl, hB⟩ := hrel
          have hbel := hB.bel
          have hsz2 := hB.low
          obtain ⟨x0, x3, x4, x5, x6, x7, x8⟩ := unhide HX
          have e3 := (hbel.cell (p := ⟨gF, 3, none⟩) hlt).trans x3
          have kr2 := (hbel.cell (p := ⟨bR, oR + (j + 1), none⟩) lR).trans (unhide HKR)
          obtain ⟨pp, hpp⟩ : ∃ pp : Nat, pp = pre + p := ⟨_, rfl⟩
          rw [← hpp]
          have hpp2 : pp ≤ pre + 63 := by omega
          by_cases hpm : p < t.length
          · have hpq : pp < pm := by have := unhide HPS; omega
            have HPP := hide hpp
            obtain ⟨x, hx⟩ : ∃ x, (flatT t)[p]? = some x := ⟨_, List.getElem?_eq_getElem (by rw [(unhide hRt).flatLen]; exact hpm)⟩
            obtain ⟨i0, i4, i5, i6, i7, i8⟩ := unhide HROW (pre + p) (fsh pre x) (unhide HXX p x hx)
            rw [← hpp] at i0 i4 i5 i6 i7 i8
            have hpr : Hid (x.f ≠ -1 → x.r = x.l + 1) := hide (fun h => (unhide hRt).flatPair hx h)
            have hlf : Hid (x.f = -1 → x.l = 0 ∧ x.r = 0) := hide (fun h => by
              rcases node_of ((unhide hRt).flat.node p x hx) with h2 | h2
              · exact ⟨h2.2.2.2.2.1, h2.2.2.2.2.2.1⟩
              · omega)
            have hbb : Hid (x.f ≠ -1 → 0 ≤ x.l ∧ x.l < 63) := hide (fun h => by
              obtain ⟨b1, b2, _, _⟩ := (unhide hRt).flat.behind p x hx h
              rw [(unhide hRt).flatLen] at b2
              omega)
            have HTK : Hid (((flatT t).take (p + 1)).flatMap Nd.cells = ((flatT t).take p).flatMap Nd.cells ++ x.cells) := hide (by rw [take_next hx]; simp)
            have j4 := (hbel.cell (p := ⟨b4, o4 + pp, none⟩) l4).trans i4
            have j5 := (hbel.cell (p := ⟨b5, o5 + pp, none⟩) l5).trans i5
            have j6 := (hbel.cell (p := ⟨b6, o6 + pp, none⟩) l6).trans i6
            have j7 := (hbel.cell (p := ⟨b7, o7 + pp, none⟩) l7).trans i7
            have j8 := (hbel.cell (p := ⟨b8, o8 + pp, none⟩) l8).trans i8
            have e4 := (hbel.cell (p := ⟨gF, 4, none⟩) hlt).trans x4
            have e5 := (hbel.cell (p := ⟨gF, 5, none⟩) hlt).trans x5
            have e6 := (hbel.cell (p := ⟨gF, 6, none⟩) hlt).trans x6
            have e7 := (hbel.cell (p := ⟨gF, 7, none⟩) hlt).trans x7
            have e8 := (hbel.cell (p := ⟨gF, 8, none⟩) hlt).trans x8
            obtain ⟨xf, xc, xl, xr, xb, xv⟩ := x
            simp only [fsh] at j4 j5 j6 j7 j8
            dsimp only at hpr hlf hbb
            obtain ⟨dl, hdl⟩ : ∃ dl, dl = (if xf = -1 then 0 else (pre : Int) + xl) := ⟨_, rfl⟩
            rw [← hdl] at j6
            clear i4 i5 i6 i7 i8 x0 x3 x4 x5 x6 x7 x8 hx hpp
            have hd4 : wr.drew.cell? ⟨gF, 4, none⟩ = some (.slice (some ⟨b4, o4, none⟩) N c4) := e4
            have ha4 : ∀ o, (wr.alloc o).drew.cell? ⟨gF, 4, none⟩ = some (.slice (some ⟨b4, o4, none⟩) N c4) := fun o => cell_alloc e4 (Nat.lt_of_lt_of_le hlt hsz2) o
            have hd5 : wr.drew.cell? ⟨gF, 5, none⟩ = some (.slice (some ⟨b5, o5, none⟩) N c5) := e5
            have ha5 : ∀ o, (wr.alloc o).drew.cell? ⟨gF, 5, none⟩ = some (.slice (some ⟨b5, o5, none⟩) N c5) := fun o => cell_alloc e5 (Nat.lt_of_lt_of_le hlt hsz2) o
            have hd6 : wr.drew.cell? ⟨gF, 6, none⟩ = some (.slice (some ⟨b6, o6, none⟩) N c6) := e6
            have ha6 : ∀ o, (wr.alloc o).drew.cell? ⟨gF, 6, none⟩ = some (.slice (some ⟨b6, o6, none⟩) N c6) := fun o => cell_alloc e6 (Nat.lt_of_lt_of_le hlt hsz2) o
            have hd7 : wr.drew.cell? ⟨gF, 7, none⟩ = some (.slice (some ⟨b7, o7, none⟩) N c7) := e7
            have ha7 : ∀ o, (wr.alloc o).drew.cell? ⟨gF, 7, none⟩ = some (.slice (some ⟨b7, o7, none⟩) N c7) := fun o => cell_alloc e7 (Nat.lt_of_lt_of_le hlt hsz2) o
            have hd8 : wr.drew.cell? ⟨gF, 8, none⟩ = some (.slice (some ⟨b8, o8, none⟩) N c8) := e8
            have ha8 : ∀ o, (wr.alloc o).drew.cell? ⟨gF, 8, none⟩ = some (.slice (some ⟨b8, o8, none⟩) N c8) := fun o => cell_alloc e8 (Nat.lt_of_lt_of_le hlt hsz2) o
            have hr4 : wr.drew.cell? ⟨b4, o4 + pp, none⟩ = some (.int .i64 xf) := j4
            have hs4 : ∀ o, (wr.alloc o).drew.cell? ⟨b4, o4 + pp, none⟩ = some (.int .i64 xf) := fun o => cell_alloc j4 (Nat.lt_of_lt_of_le l4 hsz2) o
            have hr5 : wr.drew.cell? ⟨b5, o5 + pp, none⟩ = some (.int .i64 xc) := j5
            have hs5 : ∀ o, (wr.alloc o).drew.cell? ⟨b5, o5 + pp, none⟩ = some (.int .i64 xc) := fun o => cell_alloc j5 (Nat.lt_of_lt_of_le l5 hsz2) o
            have hr6 : wr.drew.cell? ⟨b6, o6 + pp, none⟩ = some (.int .i64 dl) := j6
            have hs6 : ∀ o, (wr.alloc o).drew.cell? ⟨b6, o6 + pp, none⟩ = some (.int .i64 dl) := fun o => cell_alloc j6 (Nat.lt_of_lt_of_le l6 hsz2) o
            have hr7 : wr.drew.cell? ⟨b7, o7 + pp, none⟩ = some (.bool xb) := j7
            have hs7 : ∀ o, (wr.alloc o).drew.cell? ⟨b7, o7 + pp, none⟩ = some (.bool xb) := fun o => cell_alloc j7 (Nat.lt_of_lt_of_le l7 hsz2) o
            have hr8 : wr.drew.cell? ⟨b8, o8 + pp, none⟩ = some (.int .i64 xv) := j8
            have hs8 : ∀ o, (wr.alloc o).drew.cell? ⟨b8, o8 + pp, none⟩ = some (.int .i64 xv) := fun o => cell_alloc j8 (Nat.lt_of_lt_of_le l8 hsz2) o
            have q1 : (0 : Int) ≤ (pp : Int) := by omega
            have q2 : (pp : Int) < (N : Int) := by omega
            have HDL := hide hdl
            clear hdl
            go_upto_region 9 with (fail)
            go_region_held3 (fun w' => w'.cell? ⟨gF, 4, none⟩ = some (.slice (some ⟨b4, o4, none⟩) N c4) ∧ w'.cell? ⟨gF, 5, none⟩ = some (.slice (some ⟨b5, o5, none⟩) N c5) ∧ w'.cell? ⟨gF, 7, none⟩ = some (.slice (some ⟨b7, o7, none⟩) N c7) ∧ w'.cell? ⟨gF, 8, none⟩ = some (.slice (some ⟨b8, o8, none⟩) N c8) ∧ w'.cell? ⟨b4, o4 + pp, none⟩ = some (.int .i64 xf) ∧ w'.cell? ⟨b5, o5 + pp, none⟩ = some (.int .i64 xc) ∧ w'.cell? ⟨b7, o7 + pp, none⟩ = some (.bool xb) ∧ w'.cell? ⟨b8, o8 + pp, none⟩ = some (.int .i64 xv))
              ((refine ⟨?_, ?_, ?_, ?_, ?_, ?_, ?_, ?_⟩ <;> first | with_reducible assumption | with_reducible exact ha4 _ | with_reducible exact ha5 _ | with_reducible exact ha7 _ | with_reducible exact ha8 _ | with_reducible exact hs4 _ | with_reducible exact hs5 _ | with_reducible exact hs7 _ | with_reducible exact hs8 _))
              (fail)
            by_cases hf : xf = -1
            · obtain ⟨z1, z2⟩ := unhide hlf hf
              have hbf : (xf != -1) = false := by simp [hf]
              have hBn := ((hB.alloc (.cells #[.int .i64 xf, .int .i64 xc, .int .i64 0, .int .i64 0, .bool xb, .int .i64 xv] 41)).push 41 6 1 [.int .i64 xf, .int .i64 xc, .int .i64 0, .int .i64 0, .bool xb, .int .i64 xv] rfl (by unfold maxLen; omega) rfl).drew
              rw [World.size_alloc] at hBn
              have HTK2 : Hid (((flatT t).take (p + 1)).flatMap Nd.cells = ((flatT t).take p).flatMap Nd.cells ++ [.int .i64 xf, .int .i64 xc, .int .i64 0, .int .i64 0, .bool xb, .int .i64 xv]) := hide (by rw [unhide HTK]; simp only [Nd.cells]; rw [z1, z2])
              have hp9 : p + 1 < 1000000000 := by omega
              clear hf z1 z2 hpr hlf hbb hd4 hd5 hd6 hd7 hd8 hr4 hr5 hr6 hr7 hr8
              go_wp2_with (at_builtin; refine wpList_append_bag elem_node hBn rfl (.tmp 99) (.tmp 101) rfl 0 rfl rfl (List.mem_cons_self ..) rfl (by intro u hu; simp at hu; rcases hu with rfl | rfl | rfl | rfl | rfl | rfl <;> rfl) hp9 ?_; intro A9 c9 w9 hB9)
              have hB9b := hB9.forget
              rw [← unhide HTK2] at hB9b
              have HB9 := hide hB9b
              clear hB9 hB9b hBn
              go_wp2_with fail
              go_roundw
              case rel => exact ⟨p + 1, A9, c9, by omega, rfl, by rw [unhide HPP]; go_num, unhide HB9⟩
              case measure => simp [Lib.intOf]; omega
            · have hbf : (xf != -1) = true := by simp [hf]
              obtain ⟨z1, z2⟩ := unhide hbb hf
              have z3 := unhide hpr hf
              have z4 : dl = (pre : Int) + xl := by rw [unhide HDL, if_neg hf]
              have z5 : dl - (pre : Int) = xl := by omega
              have z6 : dl - (pre : Int) + 1 = xr := by omega
              have hBn := ((hB.alloc (.cells #[.int .i64 xf, .int .i64 xc, .int .i64 (dl - pre), .int .i64 (dl - pre + 1), .bool xb, .int .i64 xv] 41)).push 41 6 1 [.int .i64 xf, .int .i64 xc, .int .i64 (dl - pre), .int .i64 (dl - pre + 1), .bool xb, .int .i64 xv] rfl (by unfold maxLen; omega) rfl).drew
              rw [World.size_alloc] at hBn
              have HTK2 : Hid (((flatT t).take (p + 1)).flatMap Nd.cells = ((flatT t).take p).flatMap Nd.cells ++ [.int .i64 xf, .int .i64 xc, .int .i64 (dl - pre), .int .i64 (dl - pre + 1), .bool xb, .int .i64 xv]) := hide (by rw [unhide HTK]; simp only [Nd.cells]; rw [z5, z3])
              have hp9 : p + 1 < 1000000000 := by omega
              have hpre9 : pre ≤ 756 := by have := unhide HPP; omega
              have d1' : (pre : Int) ≤ dl := by omega
              have d2' : dl ≤ (pre : Int) + 63 := by omega
              clear hf z1 z2 z3 z4 z5 z6 hpr hlf hbb hd4 hd5 hd6 hd7 hd8 hr4 hr5 hr6 hr7 hr8
              go_wp2_with (at_builtin; refine wpList_append_bag elem_node hBn rfl (.tmp 99) (.tmp 101) rfl 0 rfl rfl (List.mem_cons_self ..) rfl (by intro u hu; simp at hu; rcases hu with rfl | rfl | rfl | rfl | rfl | rfl <;> rfl) hp9 ?_; intro A9 c9 w9 hB9)
              have hB9b := hB9.forget
              rw [← unhide HTK2] at hB9b
              have HB9 := hide hB9b
              clear hB9 hB9b hBn
              go_wp2_with fail
              go_roundw
              case rel => exact ⟨p + 1, A9, c9, by omega, rfl, by rw [unhide HPP]; go_num, unhide HB9⟩
              case measure => simp [Lib.intOf]; omega
          · obtain rfl : p = t.length := by omega
            have hpq : ¬ pp < pm := by have := unhide HPS; omega
            have hBq := hB
            rw [List.take_of_length_le (by rw [(unhide hRt).flatLen]; exact Nat.le_refl _)] at hBq
            have hBn := hBq.push 42 1 1 [.slice Aq t.length cq] rfl (by unfold maxLen; omega) rfl
            have hj9 : j + 1 < 1000000000 := by omega
            have hgbl := ((hB.blk _ (List.mem_cons_self ..)).1.cell 3)
            simp only [List.getElem?_toArray, List.getElem?_cons_zero, List.getElem?_cons_succ] at hgbl
            obtain ⟨M, hM⟩ : ∃ M, M = t.length := ⟨_, rfl⟩
            have HM := hide hM
            clear hB hpp
            go_wp2_with (at_builtin; refine wpList_append_bag elem_trees hBn rfl (.tmp 104) (.tmp 106) rfl 1 rfl rfl (List.mem_cons_self ..) rfl (by intro u hu; simp at hu; subst hu; rfl) hj9 ?_; intro A9 c9 w9 hB9; have g9 := ((hB9.blk _ (List.mem_cons_self ..)).1.cell 3); have f9 := ((hB9.blk _ (List.mem_cons_self ..)).1.frozen 3); simp only [List.getElem?_toArray, List.getElem?_cons_zero, List.getElem?_cons_succ] at g9)
            have hGn := gbag_next (r := ⟨Aq, t.length, cq, flatT t⟩) (unhide HK1) (unhide HK2) hB9
            have HGN := hide hGn
            clear hGn hB9 hBn hBq g9 f9 hgbl
            go_wp2_with fail
            go_roundw
            case rel =>
              refine ⟨j + 1, A9, c9, trs ++ [⟨Aq, t.length, cq, flatT t⟩], by omega, by go_num, unhide HGN, ?_⟩
              rw [List.map_append, unhide HTRS, take_next (unhide HT), List.map_append]
              rfl
            case measure => simp [Lib.intOf]; omega
      · obtain rfl : j = nw := by omega
        have b0 := (hB.blk _ (List.mem_cons_self ..)).1
        have b1 := (hB.blk _ (List.mem_cons_of_mem _ (List.mem_cons_self ..))).1
        have y0 := b0.cell 0
        have y1 := b0.cell 1
        have y2 := b0.cell 2
        have y3 := b0.cell 3
        have z0 := b1.cell 0
        have z1 := b1.cell 1
        have z2 := b1.cell 2
        have z3 := b1.cell 3
        have f0 := b1.frozen 0
        have f1 := b1.frozen 1
        have f2 := b1.frozen 2
        have f3 := b1.frozen 3
        simp only [List.getElem?_toArray, List.getElem?_cons_zero, List.getElem?_cons_succ] at y0 y1 y2 y3 z0 z1 z2 z3
        have hBs := (((hB.store 1 0 (.int .i64 f) rfl).store 1 1 (.int .i64 way) rfl).store 1 2 (.slice A1 j d1) rfl).store 1 3 (.slice At j ct) rfl
        have HBS := hide hBs
        clear b0 b1 hBs x0 x3 x4 x5 x6 x7 x8 hB
        go_wp2_with fail
        have hBs := unhide HBS
        have b1 := (hBs.blk _ (List.mem_cons_of_mem _ (List.mem_cons_self ..))).1
        have e0 := b1.cell 0
        have e1 := b1.cell 1
        have e2 := b1.cell 2
        have e3 := b1.cell 3
        simp only [List.getElem?_toArray, List.getElem?_cons_zero, List.getElem?_cons_succ, List.setIfInBounds_toArray, List.set_cons_zero, List.set_cons_succ] at e0 e1 e2 e3
        refine bodyPost_ret (v := .agg #[.int .i64 f, .int .i64 way, .slice A1 j d1, .slice At j ct]) (by simp [results, Tryd.results7, go_sem, e0, e1, e2, e3]) rfl ?_
        refine ⟨⟨f, way, A1, j, d1, ws, At, j, ct, trs⟩, rfl, rfl, rfl, rfl, ?_, gbag_reads (unhide HK1) (unhide HK2) hBs, hBs.bel⟩
        have ht := unhide HTRS
        rw [List.take_of_length_le (by rw [← unhide HNT]; exact Nat.le_refl _)] at ht
        exact ht
end Go.Proofs.YtcneacooedefjaaDoor
