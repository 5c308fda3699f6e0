/- Part 21 of what LawFlatTells needs: GroveClone. Conditions: as each lemma names. -/
import Derived.Test.YtcneacooedefjaaDoorPkFlatTells20
import Derived.Test.YtcneacooedefjaaDoorPkFlatTells15
import Derived.Test.YtcneacooedefjaaDoorPkFlatTells05
import Derived.Deep.RegionHeld3
/- grove.Clone, with slices.Clone at nodes and at trees. Conditions: as each lemma names. -/
namespace Go.Proofs.YtcneacooedefjaaDoor
set_option linter.unusedVariables false
set_option linter.unusedSimpArgs false
open Go.RowKit

theorem elem_node : Elem Tryd.prog 42 41 (.agg #[.int .i64 0, .int .i64 0, .int .i64 0, .int .i64 0, .bool false, .int .i64 0]) 6 48 := ⟨Tryd.underlying42, by kernel_rfl, rfl, by omega, by omega⟩
theorem elem_trees : Elem Tryd.prog 23 42 (.slice none 0 0) 1 24 := ⟨Tryd.underlying23, by kernel_rfl, rfl, by omega, by omega⟩
theorem nodes_one (l : List Nd) : ∀ u ∈ l.flatMap Nd.cells, u.oneCell' = true := by
  intro u hu
  obtain ⟨s, _, h⟩ := List.mem_flatMap.1 hu
  simp [Nd.cells] at h
  rcases h with rfl | rfl | rfl | rfl | rfl | rfl <;> rfl
theorem trees_one (l : List Tr) : ∀ u ∈ l.map Tr.val, u.oneCell' = true := by
  intro u hu
  obtain ⟨s, _, h⟩ := List.mem_map.1 hu
  subst h
  rfl

theorem Reads.far {w : World} {B size n : Nat} {A : Option Addr} {xs : List Value} (h : Reads w B size A n xs) {p : Addr} (hne : 0 < n → ∀ a, A = some a → a.block ≠ p.block) (u : Value) : Reads (w.setCell p u) B size A n xs :=
  ⟨h.1, fun hn => by
    obtain ⟨ad, e, hb, hc⟩ := h.2 hn
    refine ⟨ad, e, hb, fun j v hv => ?_⟩
    rw [← hc j v hv]
    exact World.cell?_of_block (by rw [block_of_add]; exact Below.heap_setCell w p u _ (hne hn ad e))⟩
theorem set_self {α : Type} {l : List α} {k : Nat} {x : α} (h : l[k]? = some x) : l.set k x = l := by
  obtain ⟨hk, e⟩ := List.getElem?_eq_some_iff.1 h
  rw [← e]; exact List.set_getElem_self hk
theorem own_far {w : World} {base : Nat} {e : TypeId} {size n : Nat} {v : Value} {xs : List Value} (h : w.ownsRow base e size v n xs) {p : Addr} (hne : ∀ k, v.ownBlock = some k → k ≠ p.block) (u : Value) : (w.setCell p u).ownsRow base e size v n xs := by
  refine h.kept (row := some p.block) (only_setCell (World.grownBy.refl w _) (.inl rfl) u) ?_
  rcases hv : v.ownBlock with _ | k
  · exact .inl rfl
  · exact .inr fun e => hne k hv (by injection e)
theorem own_low {w : World} {base base' : Nat} {e : TypeId} {size n : Nat} {v : Value} {xs : List Value} (h : w.ownsRow base e size v n xs) (hb : base' ≤ base) : w.ownsRow base' e size v n xs := by
  rcases h.2 with h0 | ⟨g, cap, cur, hv, hg, h1⟩
  · exact ⟨h.1, .inl h0⟩
  · exact ⟨h.1, .inr ⟨g, cap, cur, hv, by omega, h1⟩⟩
theorem Reads.none0 {w : World} {B size n : Nat} {xs : List Value} (h : Reads w B size none n xs) : n = 0 := by
  rcases Nat.eq_zero_or_pos n with h0 | h0
  · exact h0
  · obtain ⟨_, e, _⟩ := h.2 h0; cases e

set_option maxRecDepth 100000 in
theorem cloneN_any (A : Option Addr) (n c B : Nat) (l : List Nd) (w : World) (hr : NReads w B A n l) (hB : B ≤ w.heap.size) (hn : n ≤ 100000000) (hA : A = none → c = 0) :
    Calls Tryd.prog 33 #[.slice A n c] w fun e w' => ∃ v, e = .returned v ∧ w'.ownsRow w.heap.size 41 6 v n (l.flatMap Nd.cells) ∧ Below w.heap.size w w' := by
  have hl := hr.len
  rcases A with _ | a
  · have hn0 : n = 0 := Reads.none0 hr
    obtain rfl := hA rfl
    subst hn0
    obtain rfl : l = [] := List.eq_nil_of_length_eq_zero hl
    have hq := fun (W : World) => Lib.run_eql_slice_nil (P := Tryd.prog) W 42 41 none 0 0 0 0 Tryd.underlying42
    go_enter Tryd.func33, Tryd.ntmps33
    go_wp2_with fail
    go_ret
    exact ⟨_, rfl, World.ownsRow_nil _ _ _ _, Below.refl _ _⟩
  · have hq := fun (W : World) => Lib.run_eql_slice_nil (P := Tryd.prog) W 42 41 (some a) n c 0 0 Tryd.underlying42
    have hown0 := own_new (w := w) (B := w.heap.size) [] 41 6 0 rfl (by decide) (Nat.le_refl _)
    have hra := Reads.alloc hr hB (.cells #[] 41)
    go_enter Tryd.func33, Tryd.ntmps33
    go_wp2_with (at_builtin; refine app_many elem_node (.tmp 5) (.tmp 6) rfl rfl rfl hown0 rfl hra (nodes_one l) (by omega) (by rw [World.size_alloc]; omega) ?_; intro v2 w2 hown2 hb2 _)
    go_ret
    refine ⟨v2, rfl, ?_, ((Below.refl _ _).alloc (Nat.le_refl _) _).trans hb2⟩
    simpa using hown2
set_option maxRecDepth 100000 in
theorem cloneT_any (A : Option Addr) (n c B : Nat) (l : List Tr) (w : World) (hr : Reads w B 1 A n (l.map Tr.val)) (hB : B ≤ w.heap.size) (hn : n ≤ 100000000) (hA : A = none → c = 0) :
    Calls Tryd.prog 32 #[.slice A n c] w fun e w' => ∃ v, e = .returned v ∧ w'.ownsRow w.heap.size 42 1 v n (l.map Tr.val) ∧ Below w.heap.size w w' := by
  have hl : l.length = n := by have := hr.1; simpa using this
  rcases A with _ | a
  · have hn0 : n = 0 := Reads.none0 hr
    obtain rfl := hA rfl
    subst hn0
    obtain rfl : l = [] := List.eq_nil_of_length_eq_zero hl
    have hq := fun (W : World) => Lib.run_eql_slice_nil (P := Tryd.prog) W 23 42 none 0 0 0 0 Tryd.underlying23
    go_enter Tryd.func32, Tryd.ntmps32
    go_wp2_with fail
    go_ret
    exact ⟨_, rfl, World.ownsRow_nil _ _ _ _, Below.refl _ _⟩
  · have hq := fun (W : World) => Lib.run_eql_slice_nil (P := Tryd.prog) W 23 42 (some a) n c 0 0 Tryd.underlying23
    have hown0 := own_new (w := w) (B := w.heap.size) [] 42 1 0 rfl (by decide) (Nat.le_refl _)
    have hra := Reads.alloc hr hB (.cells #[] 42)
    go_enter Tryd.func32, Tryd.ntmps32
    go_wp2_with (at_builtin; refine app_many elem_trees (.tmp 5) (.tmp 6) rfl rfl rfl hown0 rfl hra (trees_one l) (by omega) (by rw [World.size_alloc]; omega) ?_; intro v2 w2 hown2 hb2 _)
    go_ret
    refine ⟨v2, rfl, ?_, ((Below.refl _ _).alloc (Nat.le_refl _) _).trans hb2⟩
    simpa using hown2

/-- a grove whose weights and whose row of trees are the call's own -/
structure GOwn (w : World) (base : Nat) (g : Gv) : Prop where
  ws : w.ownsRow base 3 1 (.slice g.Aw g.nw g.cw) g.nw (g.ws.map (Value.int .i64))
  ts : w.ownsRow base 42 1 (.slice g.At g.nt g.ct) g.nt (g.ts.map Tr.val)
  each : ∀ r ∈ g.ts, TrOk w w.heap.size r ∧ (0 < r.n → ∀ a, r.A = some a → (Value.slice g.At g.nt g.ct).ownBlock ≠ some a.block ∧ (Value.slice g.Aw g.nw g.cw).ownBlock ≠ some a.block ∧ base ≤ a.block)
theorem own_nil {w : World} {base : Nat} {e : TypeId} {size n c : Nat} {xs : List Value} (h : w.ownsRow base e size (.slice none n c) n xs) : c = 0 ∧ n = 0 := by
  rcases h.2 with ⟨e, h⟩ | ⟨g, cap, cur, e, _⟩
  · injection e with _ _ e; exact ⟨e, h⟩
  · cases e
theorem own_len {w : World} {base : Nat} {e : TypeId} {size n : Nat} {v : Value} {xs : List Value} (h : w.ownsRow base e size v n xs) : n ≤ maxLen := by
  rcases h.2 with ⟨_, rfl⟩ | ⟨g, cap, cur, _, _, _, h1, h2, _⟩
  · exact Nat.zero_le _
  · omega
theorem GOwn.reads {w : World} {base : Nat} {g : Gv} (h : GOwn w base g) : GReads w w.heap.size g :=
  ⟨Reads.of_own h.ws, ⟨Reads.of_own h.ts, fun r hr => (h.each r hr).1⟩, own_len h.ws, own_len h.ts, fun e => by have := h.ws; rw [e] at this; exact (own_nil this).1, fun e => by have := h.ts; rw [e] at this; exact (own_nil this).1⟩

/-- a copy of a grove -/
def ClonePost (g : Gv) (w : World) (e : Ending) (w' : World) : Prop :=
  ∃ g' : Gv, e = .returned g'.val ∧ g'.f = g.f ∧ g'.way = g.way ∧ g'.ws = g.ws ∧ g'.trees = g.trees ∧ GOwn w' w.heap.size g' ∧ Below w.heap.size w w'

set_option maxRecDepth 100000 in
set_option maxHeartbeats 2000000 in
theorem gclone_any (g : Gv) (w : World) (hr : GReads w w.heap.size g) (hw : g.nw ≤ 100000) (ht : g.nt ≤ 100000) (hts : ∀ r ∈ g.ts, r.n ≤ 100000) :
    Calls Tryd.prog 19 #[g.val] w (ClonePost g w) := by
  obtain ⟨f, way, Aw, nw, cw, ws, At, nt, ct, ts⟩ := g
  have hlw := hr.ws.len
  have hlt := hr.ts.len
  have hwr := hr.ws
  have htr := hr.ts
  have hnilw := hr.nilw
  have hnilt := hr.nilt
  clear hr
  dsimp only at hlw hlt hw ht hwr htr hnilw hnilt hts
  simp only [Gv.val]
  have HTS := hide hts
  clear hts
  go_enter Tryd.func19, Tryd.ntmps19
  go_wp2_with fail
  obtain ⟨W, hW⟩ : ∃ W, W = ((w.alloc (.cells #[.int .i64 f, .int .i64 way, .slice Aw nw cw, .slice At nt ct] 25)).alloc (.cells #[.int .i64 0, .int .i64 0, .slice none 0 0, .slice none 0 0] 25)) := ⟨_, rfl⟩
  rw [← hW]
  have b1 : Blk W w.heap.size 25 #[.int .i64 f, .int .i64 way, .slice Aw nw cw, .slice At nt ct] := by rw [hW]; exact (Blk.new _ _ _).alloc _
  have b2 : Blk W (w.heap.size + 1) 25 #[.int .i64 0, .int .i64 0, .slice none 0 0, .slice none 0 0] := by
    rw [hW]
    have := Blk.new (w.alloc (.cells #[.int .i64 f, .int .i64 way, .slice Aw nw cw, .slice At nt ct] 25)) 25 #[.int .i64 0, .int .i64 0, .slice none 0 0, .slice none 0 0]
    rwa [World.size_alloc] at this
  have hWs : W.heap.size = w.heap.size + 2 := by rw [hW]; simp
  have hb0 : Below w.heap.size w W := by rw [hW]; exact ((Below.refl _ _).alloc (Nat.le_refl _) _).alloc (by simp) _
  clear hW
  refine (cloneI_any Aw nw cw w.heap.size ws W (hwr.below hb0) (by omega) (by omega) hnilw).mono ?_
  rintro e w1 ⟨v1, rfl, ho1, hb1⟩
  have z1 := hb1.size
  have b11 := b1.below hb1 (by omega)
  have b21 := b2.below hb1 (by omega)
  have hB1 := hb0.trans (hb1.mono (by omega))
  have c12 := b11.cell 2
  have f12 := b11.frozen 2
  have c13 := b11.cell 3
  simp at c12 c13
  have ho1 : w1.ownsRow W.heap.size 3 1 v1 nw (ws.map (Value.int .i64)) := by have := ho1; unfold IOwn at this; rwa [hlw] at this
  obtain ⟨A1, d1, hv1, _, _, _⟩ := own_slice ho1
  subst hv1
  have hz1 : w.heap.size + 2 ≤ w1.heap.size := by omega
  clear hb1 b1 b2
  go_wp2_with fail
  have hbs : Below w.heap.size w (w1.setCell ⟨w.heap.size, 2, none⟩ (.slice A1 nw d1)) := hB1.setCell (p := ⟨w.heap.size, 2, none⟩) (Nat.le_refl _) _
  have b12 := b11.set_ 2 (.slice A1 nw d1)
  have b22 := b21.far (p := ⟨w.heap.size, 2, none⟩) (by show w.heap.size + 1 ≠ w.heap.size; omega) (.slice A1 nw d1)
  have ho2 := own_far ho1 (p := ⟨w.heap.size, 2, none⟩) (fun k hk => by have := own_block_ge ho1 k hk; show k ≠ w.heap.size; omega) (.slice A1 nw d1)
  have hz2 : w.heap.size + 2 ≤ (w1.setCell ⟨w.heap.size, 2, none⟩ (.slice A1 nw d1)).heap.size := by simpa [World.setCell] using hz1
  clear b11 b21 c12 c13 f12 ho1 hB1
  generalize w1.setCell ⟨w.heap.size, 2, none⟩ (.slice A1 nw d1) = W2 at *
  simp at b12
  have c3 := b12.cell 3
  simp at c3
  refine (cloneT_any At nt ct w.heap.size ts W2 (htr.1.below hbs) (by omega) (by omega) hnilt).mono ?_
  rintro e w3 ⟨v3, rfl, ho3, hb3⟩
  have z3 := hb3.size
  have b13 := b12.below hb3 (by omega)
  have b23 := b22.below hb3 (by omega)
  have hB3 := hbs.trans (hb3.mono (by omega))
  obtain ⟨A3, d3, hv3, _, _, _⟩ := own_slice ho3
  subst hv3
  have hn3 : ∀ k, (Value.slice A3 nt d3).ownBlock = some k → W2.heap.size ≤ k ∧ k < w3.heap.size := ho3.lt
  have hn1 : ∀ k, (Value.slice A1 nw d1).ownBlock = some k → W.heap.size ≤ k ∧ k < W2.heap.size := ho2.lt
  have ho2' := own_below ho2 hb3
  have c33 := b13.cell 3
  have f33 := b13.frozen 3
  simp at c33
  go_wp2_with fail
  have hbs3 : Below w.heap.size w (w3.setCell ⟨w.heap.size, 3, none⟩ (.slice A3 nt d3)) := hB3.setCell (p := ⟨w.heap.size, 3, none⟩) (Nat.le_refl _) _
  have b14 := b13.set_ 3 (.slice A3 nt d3)
  have b24 := b23.far (p := ⟨w.heap.size, 3, none⟩) (by show w.heap.size + 1 ≠ w.heap.size; omega) (.slice A3 nt d3)
  have ho4 := own_far ho3 (p := ⟨w.heap.size, 3, none⟩) (fun k hk => by have := (hn3 k hk).1; show k ≠ w.heap.size; omega) (.slice A3 nt d3)
  have ho5 := own_far ho2' (p := ⟨w.heap.size, 3, none⟩) (fun k hk => by have := (hn1 k hk).1; show k ≠ w.heap.size; omega) (.slice A3 nt d3)
  have hz4 : w.heap.size + 2 ≤ (w3.setCell ⟨w.heap.size, 3, none⟩ (.slice A3 nt d3)).heap.size := by simp [World.setCell]; omega
  have hn3' : ∀ k, (Value.slice A3 nt d3).ownBlock = some k → w.heap.size + 2 ≤ k := fun k hk => by have := hn3 k hk; omega
  have hn1' : ∀ k, (Value.slice A1 nw d1).ownBlock = some k → w.heap.size + 2 ≤ k ∧ (Value.slice A3 nt d3).ownBlock ≠ some k := fun k hk => ⟨by have := hn1 k hk; omega, fun e => by have := hn1 k hk; have := hn3 k e; omega⟩
  have hts0 : ∀ (i : Nat) r, ts[i]? = some r → TrOk (w3.setCell ⟨w.heap.size, 3, none⟩ (.slice A3 nt d3)) (w3.setCell ⟨w.heap.size, 3, none⟩ (.slice A3 nt d3)).heap.size r ∧ (0 < r.n → ∀ a, r.A = some a → (Value.slice A3 nt d3).ownBlock ≠ some a.block ∧ (Value.slice A1 nw d1).ownBlock ≠ some a.block ∧ (i < 0 → w.heap.size ≤ a.block)) := fun i r hi => by
    have hr := List.mem_of_getElem? hi
    have h1 := (htr.2 r hr).below hbs3
    refine ⟨h1.more (by omega), fun hn a ha => ?_⟩
    obtain ⟨ad, e', hb', _⟩ := h1.reads.2 hn
    rw [ha] at e'; injection e' with e'; subst e'
    refine ⟨fun e => ?_, fun e => ?_, fun h => by omega⟩
    · have := hn3' _ e
      omega
    · have := (hn1' _ e).1
      omega
  clear b13 b23 c33 f33 ho2' ho3 hB3 hn3 hn1 ho2 hb3 b12 b22 c3 z3
  generalize w3.setCell ⟨w.heap.size, 3, none⟩ (.slice A3 nt d3) = W4 at *
  simp at b14
  have HLT := hide hlt
  clear hbs hlt hlw hwr htr
  go_loopw [16] (fun i wr => ∃ (k : Nat) (ts' : List Tr), k ≤ nt ∧ i = .int .i64 k ∧ Hid (ts'.map Tr.l = ts.map Tr.l) ∧ Hid (∀ r ∈ ts', r.n ≤ 100000) ∧
      Hid (∀ (i : Nat) r, ts'[i]? = some r → TrOk wr wr.heap.size r ∧ (0 < r.n → ∀ a, r.A = some a → (Value.slice A3 nt d3).ownBlock ≠ some a.block ∧ (Value.slice A1 nw d1).ownBlock ≠ some a.block ∧ (i < k → w.heap.size ≤ a.block))) ∧
      wr.ownsRow w.heap.size 42 1 (.slice A3 nt d3) nt (ts'.map Tr.val) ∧ wr.ownsRow w.heap.size 3 1 (.slice A1 nw d1) nw (ws.map (Value.int .i64)) ∧
      Blk wr (w.heap.size + 1) 25 #[.int .i64 0, .int .i64 0, .slice none 0 0, .slice none 0 0] ∧ Blk wr w.heap.size 25 #[.int .i64 f, .int .i64 way, .slice A1 nw d1, .slice A3 nt d3] ∧ Below w.heap.size w wr) (fun i _ => nt - (intOf i).toNat)
  case atStart => exact ⟨0, ts, Nat.zero_le _, rfl, hide rfl, HTS, hide hts0, own_low ho4 (by omega), own_low ho5 (by omega), b24, b14, hbs3⟩
  case round =>
    clear ho4 ho5 b24 b14 hbs3 hts0
    obtain ⟨k, ts', hk, rfl, HL, HN, HR, ho4, ho5, b24, b14, hbel⟩ := hrel
    have hsz := hbel.size
    have c13 := b14.cell 3
    simp at c13
    have bl1 := b14.lt
    have bl2 := b24.lt
    by_cases hlk : k < nt
    · obtain ⟨g, cap, hv, hgb, hgl⟩ := ho4.form (by omega)
      cases hv
      have hl' : ts'.length = nt := by have := ho4.1; simpa using this
      have hr' : ts'[k]? = some ts'[k] := List.getElem?_eq_getElem (by omega)
      obtain ⟨r, hre⟩ : ∃ r, r = ts'[k] := ⟨_, rfl⟩
      rw [← hre] at hr'
      have hm := List.mem_of_getElem? hr'
      have cg := ho4.cellAt k (by omega)
      have fg := ho4.frozenAt k
      rw [List.getElem?_map, hr'] at cg
      obtain ⟨hok, hfar⟩ := unhide HR k r hr'
      have hrn := unhide HN r hm
      have HM := hide hr'
      obtain ⟨rA, rn, rc, rl⟩ := r
      simp only [Option.map_some, Tr.val] at cg
      dsimp only at hrn hfar
      have hcl := fun (W : World) (h : NReads W wr.heap.size rA rn rl) (hB : wr.heap.size ≤ W.heap.size) => cloneN_any rA rn rc wr.heap.size rl W h hB (by omega) hok.nil
      have hrr := hok.reads
      dsimp only at hrr
      clear hm hre hr' hok hl'
      have HCL := hide hcl
      have HF := hide hfar
      clear hcl hfar
      have hg2 := hn3' g rfl
      have HN3 := hide hn3'
      clear hn3'
      go_wp2_with fail
      go_region_held3 (fun w' => w'.cell? ⟨w.heap.size, 3, none⟩ = some (.slice (some ⟨g, 0, none⟩) nt d3))
        (first | go_keep | (go_split_ands; rw [hbc.cell (p := ⟨w.heap.size, 3, none⟩) (by simp; omega)]; assumption) | (go_split_ands; rw [World.cell?_setCell_other _ _ _ _ (fun e => by injection e; omega), hbc.cell (p := ⟨w.heap.size, 3, none⟩) (by simp; omega)]; assumption))
        ((go_at_call 33; refine (unhide HCL _ (Reads.drew hrr) (by simp)).mono ?_; rintro e wc ⟨vc, rfl, hownc, hbc⟩; obtain ⟨Ac, dc, hvc, _, _, _⟩ := own_slice hownc; subst hvc; have cgc : wc.cell? ⟨g, k, none⟩ = some (.slice rA rn rc) := (hbc.cell (p := ⟨g, k, none⟩) (by simp; omega)).trans cg; have fgc : wc.frozen? ⟨g, k, none⟩ = false := (hbc.frozen (p := ⟨g, k, none⟩) (by simp; omega)).trans fg))
      have hbw : Below wr.heap.size wr wc := ((Below.refl wr.heap.size wr).drew).trans hbc
      have hzc := hbw.size
      have ho4c := own_below ho4 hbw
      have ho5c := own_below ho5 hbw
      obtain ⟨hst, hgr⟩ := ho4c.stored k (.slice Ac rn dc)
      have hbs2 : Below w.heap.size wc (wc.setCell ⟨g, k, none⟩ (.slice Ac rn dc)) := (Below.refl _ _).setCell (p := ⟨g, k, none⟩) hgb _
      have ho6 := own_far ho5c (p := ⟨g, k, none⟩) (fun q hq e => (hn1' q hq).2 (by rw [e]; rfl)) (.slice Ac rn dc)
      have bb1 := (b14.below hbw bl1).far (p := ⟨g, k, none⟩) (by show w.heap.size ≠ g; omega) (.slice Ac rn dc)
      have bb2 := (b24.below hbw bl2).far (p := ⟨g, k, none⟩) (by show w.heap.size + 1 ≠ g; omega) (.slice Ac rn dc)
      have hown7 := own_far hownc (p := ⟨g, k, none⟩) (fun q hq e => by have := own_block_ge hownc q hq; simp at this e; omega) (.slice Ac rn dc)
      have hzs : (wc.setCell ⟨g, k, none⟩ (.slice Ac rn dc)).heap.size = wc.heap.size := by simp [World.setCell]
      have hR2 : Hid (∀ (i : Nat) r, (ts'.set k ⟨Ac, rn, dc, rl⟩)[i]? = some r → TrOk (wc.setCell ⟨g, k, none⟩ (.slice Ac rn dc)) (wc.setCell ⟨g, k, none⟩ (.slice Ac rn dc)).heap.size r ∧ (0 < r.n → ∀ a, r.A = some a → (Value.slice (some ⟨g, 0, none⟩) nt d3).ownBlock ≠ some a.block ∧ (Value.slice A1 nw d1).ownBlock ≠ some a.block ∧ (i < k + 1 → w.heap.size ≤ a.block))) := hide (fun i r hr => by
        by_cases hik : k = i
        · subst hik
          rw [List.getElem?_set_self (List.getElem?_eq_some_iff.1 (unhide HM)).1] at hr
          injection hr with hr
          subst hr
          refine ⟨⟨?_, own_len hown7, fun e => ?_⟩, fun hn a ha => ?_⟩
          · exact Reads.of_own hown7
          · dsimp only at e; rw [e] at hown7; exact (own_nil hown7).1
          · dsimp only at ha
            have := own_block_ge hownc a.block (by rw [ha]; rfl)
            have h1 := fun q hq => (ho5.lt q hq).2
            refine ⟨fun e => ?_, fun e => ?_, fun _ => ?_⟩
            · simp [Value.ownBlock] at this e
              omega
            · have := h1 _ e
              simp at *
              omega
            · simp at this
              omega
        · rw [List.getElem?_set_ne hik] at hr
          obtain ⟨h1, h2⟩ := unhide HR i r hr
          have h3 : TrOk wc wc.heap.size r := (h1.below hbw).more hzc
          refine ⟨⟨?_, h3.len, h3.nil⟩, fun hn a ha => ⟨(h2 hn a ha).1, (h2 hn a ha).2.1, fun hi => (h2 hn a ha).2.2 (by omega)⟩⟩
          rw [hzs]
          exact Reads.far h3.reads (fun hn a ha e => (h2 hn a ha).1 (by rw [e]; rfl)) _)
      have hN2 : Hid (∀ r ∈ ts'.set k ⟨Ac, rn, dc, rl⟩, r.n ≤ 100000) := hide (fun r hr => by
        rcases List.mem_or_eq_of_mem_set hr with hr | rfl
        · exact unhide HN r hr
        · exact hrn)
      have hL2 : Hid ((ts'.set k ⟨Ac, rn, dc, rl⟩).map Tr.l = ts.map Tr.l) := hide (by
        rw [← unhide HL, List.map_set]
        exact set_self (by rw [List.getElem?_map, unhide HM]; rfl))
      have hst2 : (wc.setCell ⟨g, k, none⟩ (.slice Ac rn dc)).ownsRow w.heap.size 42 1 (.slice (some ⟨g, 0, none⟩) nt d3) nt ((ts'.set k ⟨Ac, rn, dc, rl⟩).map Tr.val) := by
        rw [List.map_set]; exact hst
      have hbel2 := (hbel.trans (hbw.mono hsz)).trans hbs2
      clear hst hgr ho4c ho5c hbs2 hownc hown7 cgc fgc HR HN ho4 ho5 b14 b24 c13 cg fg HCL HF HN3 hbc hbw
      generalize wc.setCell ⟨g, k, none⟩ (.slice Ac rn dc) = W6 at *
      go_wp2_with fail
      go_roundw
      case rel => exact ⟨k + 1, _, by omega, by go_num, hL2, hN2, hR2, hst2, ho6, bb2, bb1, hbel2⟩
      case measure => simp [intOf]; omega
    · obtain rfl : k = nt := by omega
      have c10 := b14.cell 0
      have c11 := b14.cell 1
      have c12 := b14.cell 2
      have c20 := b24.cell 0
      have c21 := b24.cell 1
      have c22 := b24.cell 2
      have c23 := b24.cell 3
      have f20 := b24.frozen 0
      have f21 := b24.frozen 1
      have f22 := b24.frozen 2
      have f23 := b24.frozen 3
      simp at c10 c11 c12 c20 c21 c22 c23
      have hq1 : ∀ o, ∀ q, (Value.slice A1 nw d1).ownBlock = some q → q ≠ (⟨w.heap.size + 1, o, none⟩ : Addr).block := fun o q hq => by have := (hn1' q hq).1; show q ≠ w.heap.size + 1; omega
      have hq3 : ∀ o, ∀ q, (Value.slice A3 k d3).ownBlock = some q → q ≠ (⟨w.heap.size + 1, o, none⟩ : Addr).block := fun o q hq => by have := hn3' q hq; show q ≠ w.heap.size + 1; omega
      have hBB : Below w.heap.size w (((((wr.setCell ⟨w.heap.size + 1, 0, none⟩ (.int .i64 f)).setCell ⟨w.heap.size + 1, 1, none⟩ (.int .i64 way)).setCell ⟨w.heap.size + 1, 2, none⟩ (.slice A1 nw d1)).setCell ⟨w.heap.size + 1, 3, none⟩ (.slice A3 k d3))) :=
        (((hbel.setCell (p := ⟨w.heap.size + 1, 0, none⟩) (by show w.heap.size ≤ w.heap.size + 1; omega) _).setCell (p := ⟨w.heap.size + 1, 1, none⟩) (by show w.heap.size ≤ w.heap.size + 1; omega) _).setCell (p := ⟨w.heap.size + 1, 2, none⟩) (by show w.heap.size ≤ w.heap.size + 1; omega) _).setCell (p := ⟨w.heap.size + 1, 3, none⟩) (by show w.heap.size ≤ w.heap.size + 1; omega) _
      have hG : Hid (GOwn ((((wr.setCell ⟨w.heap.size + 1, 0, none⟩ (.int .i64 f)).setCell ⟨w.heap.size + 1, 1, none⟩ (.int .i64 way)).setCell ⟨w.heap.size + 1, 2, none⟩ (.slice A1 nw d1)).setCell ⟨w.heap.size + 1, 3, none⟩ (.slice A3 k d3)) w.heap.size ⟨f, way, A1, nw, d1, ws, A3, k, d3, ts'⟩) := hide (by
        refine ⟨own_far (own_far (own_far (own_far ho5 (hq1 0) _) (hq1 1) _) (hq1 2) _) (hq1 3) _, own_far (own_far (own_far (own_far ho4 (hq3 0) _) (hq3 1) _) (hq3 2) _) (hq3 3) _, fun r hr => ?_⟩
        obtain ⟨i, hi⟩ := List.mem_iff_getElem?.1 hr
        obtain ⟨h1, h2⟩ := unhide HR i r hi
        change ts'[i]? = some r at hi
        have hik : i < k := by have := (List.getElem?_eq_some_iff.1 hi).1; have := ho4.1; simp at this; omega
        refine ⟨⟨?_, h1.len, h1.nil⟩, fun hn a ha => ⟨(h2 hn a ha).1, (h2 hn a ha).2.1, (h2 hn a ha).2.2 hik⟩⟩
        have hz : ((((wr.setCell ⟨w.heap.size + 1, 0, none⟩ (.int .i64 f)).setCell ⟨w.heap.size + 1, 1, none⟩ (.int .i64 way)).setCell ⟨w.heap.size + 1, 2, none⟩ (.slice A1 nw d1)).setCell ⟨w.heap.size + 1, 3, none⟩ (.slice A3 k d3)).heap.size = wr.heap.size := by simp [World.setCell]
        rw [hz]
        have hne : ∀ o, 0 < r.n → ∀ a, r.A = some a → a.block ≠ (⟨w.heap.size + 1, o, none⟩ : Addr).block := fun o hn a ha e => by
          obtain ⟨b, off, x, ea, _, _, _, _, _, _, _, c5⟩ := h1.reads.get hn
          rw [ha] at ea
          injection ea with ea
          subst ea
          dsimp only at e
          subst e
          rw [b24.cell] at c5
          simp at c5
        exact Reads.far (Reads.far (Reads.far (Reads.far h1.reads (hne 0) _) (hne 1) _) (hne 2) _) (hne 3) _)
      have bF := (((b24.set_ 0 (.int .i64 f)).set_ 1 (.int .i64 way)).set_ 2 (.slice A1 nw d1)).set_ 3 (.slice A3 k d3)
      simp at bF
      clear hq1 hq3
      go_wp2_with fail
      generalize (((wr.setCell ⟨w.heap.size + 1, 0, none⟩ (.int .i64 f)).setCell ⟨w.heap.size + 1, 1, none⟩ (.int .i64 way)).setCell ⟨w.heap.size + 1, 2, none⟩ (.slice A1 nw d1)).setCell ⟨w.heap.size + 1, 3, none⟩ (.slice A3 k d3) = WF at *
      have k0 := bF.cell 0
      have k1 := bF.cell 1
      have k2 := bF.cell 2
      have k3 := bF.cell 3
      simp at k0 k1 k2 k3
      refine bodyPost_ret (v := .agg #[.int .i64 f, .int .i64 way, .slice A1 nw d1, .slice A3 k d3]) (by simp [results, Tryd.results19, go_sem, k0, k1, k2, k3]) rfl ⟨⟨f, way, A1, nw, d1, ws, A3, k, d3, ts'⟩, rfl, rfl, rfl, rfl, unhide HL, unhide hG, hBB⟩
end Go.Proofs.YtcneacooedefjaaDoor
