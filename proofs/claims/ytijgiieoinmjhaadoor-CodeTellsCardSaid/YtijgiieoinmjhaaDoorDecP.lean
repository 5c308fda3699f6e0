/- A grove while it is read: what lies where, and how it stays. Conditions: as each lemma names. -/
import Derived.Test.YtijgiieoinmjhaaDoorCodeE
import Derived.Test.YtijgiieoinmjhaaDoorREnc
namespace Go.Proofs.YtijgiieoinmjhaaDoor
set_option linter.unusedVariables false
set_option linter.unusedSimpArgs false
open Go.RowKit

theorem grown_chg {g : Nat} {w w' : World} (h : Chg g w w') : w.grownBy w' (some g) := ⟨h.os, h.tape, h.output, h.size, fun b hb hn => h.block b hb (fun e => hn (by rw [e]))⟩
theorem own_chg {w w' : World} {base g : Nat} {e : TypeId} {size n : Nat} {v : Value} {xs : List Value} (h : w.ownsRow base e size v n xs) (hc : Chg g w w') (hg : g < base) : w'.ownsRow base e size v n xs := by
  refine h.kept (grown_chg hc) ?_
  rcases hv : v.ownBlock with _ | k
  · exact .inl rfl
  · exact .inr fun e => by
      have := own_block_ge h k hv
      injection e with e
      omega
theorem own_farD {w : World} {base : Nat} {e : TypeId} {size n : Nat} {v : Value} {xs : List Value} (h : w.ownsRow base e size v n xs) {g : Nat} (hg : g < base) (i : Nat) (u : Value) : (w.setCell ⟨g, i, none⟩ u).ownsRow base e size v n xs := own_chg h ((Chg.refl g w).set_ i u) hg
def zeroG : Array Value := #[.int .i64 0, .int .i64 0, .slice none 0 0, .slice none 0 0]

/-- the result's cells K, the reader r, the grove G, its rows from B1 on -/
structure DSt (w wr : World) (r K G B1 : Nat) (f way : Int) (L1 : List Int) (ts : List Tr) (vw vt : Value) : Prop where
  kb : Blk wr K 73 zeroG
  gb : Blk wr G 73 #[.int .i64 f, .int .i64 way, vw, vt]
  ws : RowI B1 wr vw L1
  tr : wr.ownsRow B1 109 1 vt ts.length (ts.map Tr.val)
  each : ∀ t ∈ ts, wr.ownsRow B1 111 6 t.val t.n (t.l.flatMap Nd.cells)
  below : Below w.heap.size w wr
  o1 : w.heap.size ≤ K
  o2 : K < r
  o3 : r < G
  o4 : G < B1
  o5 : B1 ≤ wr.heap.size
section
variable {w wr wr' w' : World} {r K G B1 : Nat} {f way : Int} {L1 : List Int} {ts : List Tr} {vw vt : Value}
theorem DSt.chg (h : DSt w wr r K G B1 f way L1 ts vw vt) (hc : Chg r wr wr') : DSt w wr' r K G B1 f way L1 ts vw vt := by
  have o1 := h.o1; have o2 := h.o2; have o3 := h.o3; have o4 := h.o4; have o5 := h.o5
  exact ⟨h.kb.chg hc (by omega), h.gb.chg hc (by omega), own_chg h.ws hc (by omega), own_chg h.tr hc (by omega), fun t ht => own_chg (h.each t ht) hc (by omega), h.below.trans (hc.below (by omega) h.below.size), o1, o2, o3, o4, Nat.le_trans o5 hc.size⟩
theorem DSt.more (h : DSt w wr r K G B1 f way L1 ts vw vt) (hb : Below wr.heap.size wr wr') : DSt w wr' r K G B1 f way L1 ts vw vt := h.chg (Chg.of_below hb)
theorem DSt.drew (h : DSt w wr r K G B1 f way L1 ts vw vt) : DSt w wr.drew r K G B1 f way L1 ts vw vt := h.more (Below.refl _ _).drew
theorem DSt.ne (h : DSt w wr r K G B1 f way L1 ts vw vt) {e : TypeId} {size n : Nat} {v : Value} {xs : List Value} (ho : wr.ownsRow B1 e size v n xs) {b : Nat} (hb : b < B1) : some b ≠ v.ownBlock := fun e => by
  have := own_block_ge ho b e.symm
  omega
/-- behind the append: the grove's cells as they were -/
theorem DSt.mid (h : DSt w wr r K G B1 f way L1 ts vw vt) {e : TypeId} {size n : Nat} {v : Value} {xs : List Value} (ho : wr.ownsRow B1 e size v n xs) {o : Obj} (hg : (wr.alloc o).grownBy w' v.ownBlock) : Blk w' G 73 #[.int .i64 f, .int .i64 way, vw, vt] :=
  (h.gb.alloc o).grown hg (h.ne ho h.o4)
theorem DSt.putW (h : DSt w wr r K G B1 f way L1 ts vw vt) {x : Int} {v' : Value} {o : Obj} (ho : w'.ownsRow B1 3 1 v' (L1.length + 1) (L1.map (Value.int .i64) ++ [.int .i64 x])) (hg : (wr.alloc o).grownBy w' vw.ownBlock) :
    DSt w (w'.setCell ⟨G, 2, none⟩ v') r K G B1 f way (L1 ++ [x]) ts v' vt := by
  have o1 := h.o1; have o2 := h.o2; have o3 := h.o3; have o4 := h.o4; have o5 := h.o5
  have hsz := hg.size
  rw [World.size_alloc] at hsz
  refine ⟨((h.kb.alloc o).grown hg (h.ne h.ws (by omega))).far (p := ⟨G, 2, none⟩) (by show K ≠ G; omega) v', ?_, ?_, own_farD (own_kept h.tr h.ws (by decide) hg) (by omega) 2 v', fun t ht => own_farD (own_kept (h.each t ht) h.ws (by decide) hg) (by omega) 2 v', ?_, o1, o2, o3, o4, by simp [World.setCell]; omega⟩
  · have := (h.mid h.ws hg).set_ 2 v'
    simpa [List.setIfInBounds_toArray] using this
  · unfold RowI
    rw [List.length_append, List.map_append]
    exact own_farD ho (by omega) 2 v'
  · exact ((h.below.alloc h.below.size o).grown hg (by rw [World.size_alloc]; have := h.below.size; omega) (fun k hk => by have := own_block_ge h.ws k hk; omega)).setCell (p := ⟨G, 2, none⟩) (by show w.heap.size ≤ G; omega) v'
theorem DSt.putT (h : DSt w wr r K G B1 f way L1 ts vw vt) {t : Tr} {v' : Value} {o : Obj} (ht : wr.ownsRow B1 111 6 t.val t.n (t.l.flatMap Nd.cells)) (ho : w'.ownsRow B1 109 1 v' (ts.length + 1) (ts.map Tr.val ++ [t.val])) (hg : (wr.alloc o).grownBy w' vt.ownBlock) :
    DSt w (w'.setCell ⟨G, 3, none⟩ v') r K G B1 f way L1 (ts ++ [t]) vw v' := by
  have o1 := h.o1; have o2 := h.o2; have o3 := h.o3; have o4 := h.o4; have o5 := h.o5
  have hsz := hg.size
  rw [World.size_alloc] at hsz
  refine ⟨((h.kb.alloc o).grown hg (h.ne h.tr (by omega))).far (p := ⟨G, 3, none⟩) (by show K ≠ G; omega) v', ?_, own_farD (own_kept h.ws h.tr (by decide) hg) (by omega) 3 v', ?_, fun u hu => ?_, ?_, o1, o2, o3, o4, by simp [World.setCell]; omega⟩
  · have := (h.mid h.tr hg).set_ 3 v'
    simpa [List.setIfInBounds_toArray] using this
  · rw [List.length_append, List.map_append]
    exact own_farD ho (by omega) 3 v'
  · rcases List.mem_append.1 hu with hu | hu
    · exact own_farD (own_kept (h.each u hu) h.tr (by decide) hg) (by omega) 3 v'
    · simp at hu; subst hu
      exact own_farD (own_kept ht h.tr (by decide) hg) (by omega) 3 v'
  · exact ((h.below.alloc h.below.size o).grown hg (by rw [World.size_alloc]; have := h.below.size; omega) (fun k hk => by have := own_block_ge h.tr k hk; omega)).setCell (p := ⟨G, 3, none⟩) (by show w.heap.size ≤ G; omega) v'
/-- what was read, as a grove -/
theorem DSt.reads (h : DSt w wr r K G B1 f way L1 ts vw vt) : ∃ o : Gv, vw = .slice o.Aw o.nw o.cw ∧ vt = .slice o.At o.nt o.ct ∧ o.f = f ∧ o.way = way ∧ o.ws = L1 ∧ o.ts = ts ∧ GReads wr wr.heap.size o := by
  obtain ⟨Aw, cw, rfl, hr1, hm1, _, hn1, _⟩ := own_slice2 h.ws
  obtain ⟨At, ct, rfl, hr2, hm2, _, hn2, _⟩ := own_slice2 h.tr
  refine ⟨⟨f, way, Aw, L1.length, cw, L1, At, ts.length, ct, ts⟩, rfl, rfl, rfl, rfl, rfl, rfl, ⟨hr1, ⟨hr2, fun t ht => ?_⟩, hm1, hm2, hn1, hn2⟩⟩
  obtain ⟨A, c, hv, hr, hm, _, hn, _⟩ := own_slice2 (h.each t ht)
  unfold Tr.val at hv
  injection hv with e1 e2 e3
  subst e1 e3
  exact ⟨hr, hm, hn⟩
end
theorem DSt.readsK {w wr wr' : World} {r K G B1 b : Nat} {f way : Int} {L1 : List Int} {ts : List Tr} {vw vt : Value} {o : Gv} (h : DSt w wr r K G B1 f way L1 ts vw vt) (hc : Chg b wr wr') (hb : b < B1) (e1 : vw = .slice o.Aw o.nw o.cw) (e2 : vt = .slice o.At o.nt o.ct) (e3 : o.ws = L1) (e4 : o.ts = ts) : GReads wr' wr'.heap.size o := by
  obtain ⟨f_, way_, Aw, nw, cw, ws, At, nt, ct, ts_⟩ := o
  dsimp only at e1 e2 e3 e4
  subst e3 e4
  obtain ⟨A1, c1, q1, hr1, hm1, _, hn1, _⟩ := own_slice2 (own_chg h.ws hc hb)
  obtain ⟨A2, c2, q2, hr2, hm2, _, hn2, _⟩ := own_slice2 (own_chg h.tr hc hb)
  rw [e1] at q1
  rw [e2] at q2
  injection q1 with a1 a2 a3
  injection q2 with b1 b2 b3
  subst a1 a2 a3 b1 b2 b3
  refine ⟨hr1, ⟨hr2, fun t ht => ?_⟩, hm1, hm2, hn1, hn2⟩
  obtain ⟨A, c, hv, hr, hm, _, hn, _⟩ := own_slice2 (own_chg (h.each t ht) hc hb)
  unfold Tr.val at hv
  injection hv with e1 e2 e3
  subst e1 e3
  exact ⟨hr, hm, hn⟩
theorem many_range {b : List Int} {m : Int} {s : Rd} (hm : 0 ≤ m) : 0 ≤ (rdMany b m s).1 ∧ (rdMany b m s).1 ≤ m := by
  unfold rdMany
  dsimp only
  by_cases h : (rdMust (mayMany m (rdNum b s).1) 1 (rdNum b s).2).bad = 0
  · rw [if_pos h]
    obtain ⟨h1, _⟩ := rdMust_0 (by decide) h
    unfold mayMany at h1
    have := of_decide_eq_true h1
    omega
  · rw [if_neg h]; omega
/-- what Decode says -/
def DecPost (er : Int → Value) (b : List Int) (w : World) (e : Ending) (w' : World) : Prop :=
  ∃ o : Gv, e = .returned (.tuple #[o.val, .int .i64 ((decE b).1 : Int), er (decE b).2]) ∧ GReads w' w'.heap.size o ∧ Below w.heap.size w w' ∧
    ((decE b).2 = 0 → o.f = (rdF b).1 ∧ o.way = (rdW b).1 ∧ o.ws = (rdT b).1.map (·.1) ∧ o.trees = (rdT b).1.map (·.2)) ∧ ((decE b).2 ≠ 0 → o.f = 0 ∧ o.way = 0 ∧ o.ws = [] ∧ o.trees = [])
def nilG : Gv := ⟨0, 0, none, 0, 0, [], none, 0, 0, []⟩
theorem nilG_reads (w : World) (B : Nat) : GReads w B nilG := ⟨Reads.none_, ⟨Reads.none_, fun r hr => nomatch hr⟩, Nat.zero_le _, Nat.zero_le _, fun _ => rfl, fun _ => rfl⟩
theorem DecPost.no {er : Int → Value} {b : List Int} {w w' : World} {at_ : Nat} {e : Int} (h : decE b = (at_, e)) (he : e ≠ 0) (hb : Below w.heap.size w w') : DecPost er b w (.returned (.tuple #[nilG.val, .int .i64 (at_ : Int), er e])) w' :=
  ⟨nilG, by rw [h], nilG_reads _ _, hb, fun h0 => by rw [h] at h0; exact absurd h0 he, fun _ => ⟨rfl, rfl, rfl, rfl⟩⟩
theorem elem_nodeD : Elem Tryd.prog 109 111 (.agg #[.int .i64 0, .int .i64 0, .int .i64 0, .int .i64 0, .bool false, .int .i64 0]) 6 48 := ⟨Tryd.underlying109, by kernel_rfl, rfl, by omega, by omega⟩
theorem elem_treesD : Elem Tryd.prog 71 109 (.slice none 0 0) 1 24 := ⟨Tryd.underlying71, by kernel_rfl, rfl, by omega, by omega⟩
theorem node_oneD (x : Nd) : ∀ u ∈ x.cells, u.oneCell' = true := by
  intro u h
  simp [Nd.cells] at h
  rcases h with rfl | rfl | rfl | rfl | rfl | rfl <;> rfl
/-- a row of nodes of the call's own -/
def RowN (base : Nat) (W : World) (v : Value) (l : List Nd) : Prop := W.ownsRow base 111 6 v l.length (l.flatMap Nd.cells)
theorem rdNodes_len (b : List Int) (s : Rd) : ∀ k, (rdNodes b s k).1.length = k := by
  intro k
  induction k with
  | zero => rfl
  | succ k ih => show (_ ++ [_]).length = _; rw [List.length_append, ih]; rfl
theorem rdTrees_len (b : List Int) (s : Rd) : ∀ k, (rdTrees b s k).1.length = k := by
  intro k
  induction k with
  | zero => rfl
  | succ k ih => show (_ ++ [_]).length = _; rw [List.length_append, ih]; rfl
theorem Chg.grownNew {g : Nat} {w x w' : World} {row : Option Nat} (h : Chg g w x) {o : Obj} (hg : (x.alloc o).grownBy w' row) (hrow : ∀ k, row = some k → w.heap.size ≤ k) : Chg g w w' :=
  ⟨hg.os.trans h.os, hg.tape.trans h.tape, hg.output.trans h.output, Nat.le_trans h.size (Nat.le_trans (by simp) hg.size), fun b hb hn => by
    have hs := h.size
    refine (hg.block b (by rw [World.size_alloc]; omega) (fun e => by have := hrow b e.symm; omega)).trans ((Below.heap_alloc x o b (by omega)).trans (h.block b hb hn))⟩
/-- four cells are written -/
def set4 (w : World) (g : Nat) (v0 v1 v2 v3 : Value) : World := (((w.setCell ⟨g, 0, none⟩ v0).setCell ⟨g, 1, none⟩ v1).setCell ⟨g, 2, none⟩ v2).setCell ⟨g, 3, none⟩ v3
theorem Blk.set4_ {w : World} {g : Nat} {t : TypeId} {x0 x1 x2 x3 : Value} (h : Blk w g t #[x0, x1, x2, x3]) (v0 v1 v2 v3 : Value) : Blk (set4 w g v0 v1 v2 v3) g t #[v0, v1, v2, v3] := by
  have := (((h.set_ 0 v0).set_ 1 v1).set_ 2 v2).set_ 3 v3
  unfold set4
  simpa [List.setIfInBounds_toArray] using this
theorem Blk.cells4e {w : World} {g : Nat} {t : TypeId} {x0 x1 x2 x3 : Value} (h : Blk w g t #[x0, x1, x2, x3]) : w.cell? ⟨g, 0, none⟩ = some x0 ∧ w.cell? ⟨g, 1, none⟩ = some x1 ∧ w.cell? ⟨g, 2, none⟩ = some x2 ∧ w.cell? ⟨g, 3, none⟩ = some x3 ∧ w.frozen? ⟨g, 0, none⟩ = false ∧ w.frozen? ⟨g, 1, none⟩ = false ∧ w.frozen? ⟨g, 2, none⟩ = false ∧ w.frozen? ⟨g, 3, none⟩ = false :=
  ⟨h.cell 0, h.cell 1, h.cell 2, h.cell 3, h.frozen 0, h.frozen 1, h.frozen 2, h.frozen 3⟩
theorem Chg.set4_ {g : Nat} {w w' : World} (h : Chg g w w') (v0 v1 v2 v3 : Value) : Chg g w (set4 w' g v0 v1 v2 v3) := (((h.set_ 0 v0).set_ 1 v1).set_ 2 v2).set_ 3 v3
/-- what the reader has when all is read -/
def finS (b : List Int) : Rd := if (rdT b).2.bad = 0 then rdMust (decide ((rdT b).2.nx = b.length)) 2 ⟨(rdT b).2.nx, (rdT b).2.nx, 0⟩ else (rdT b).2
def finE (b : List Int) : Int := if (finS b).bad = 0 then decGE b else (finS b).bad
theorem decE_fin {b : List Int} (h : ¬ 6000 < b.length) : decE b = if finE b = 0 then (0, 0) else ((finS b).at_, finE b) := by
  unfold decE finE finS
  rw [if_neg h]
  by_cases h1 : (rdT b).2.bad = 0
  · rw [if_neg (not_not_intro h1), if_pos h1]
    by_cases h2 : (rdT b).2.nx = b.length
    · rw [if_neg (not_not_intro h2), decide_eq_true h2, rdMust_ok]
      dsimp only
      rw [if_pos rfl]
      by_cases h3 : decGE b = 0
      · rw [if_neg (not_not_intro h3), if_pos h3]
      · rw [if_pos h3, if_neg h3]
    · rw [if_pos h2, decide_eq_false h2, rdMust_no rfl]
      rfl
  · rw [if_pos h1, if_neg h1, if_neg h1, if_neg h1]
end Go.Proofs.YtijgiieoinmjhaaDoor
