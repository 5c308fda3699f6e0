/- Part 7 of what LawWeighNeeds needs: GroveClone, Votes, Maps. Conditions: as each lemma names. -/
import Derived.Test.YtopncifebldklaaPkWeighNeeds04
import Derived.Test.YtopncifebldklaaPkWeighNeeds06
import Derived.Deep.RegionHeld3
import Derived.Lib.Slices
import Derived.Lib.Hide
import Derived.Test.YtopncifebldklaaPkWeighNeeds01
import Derived.Maps.Own
import Derived.Maps.OwnOps
import Derived.Maps.OwnSet
import Derived.Maps.Views
/- grove.Clone, with slices.Clone at nodes and at trees. Conditions: as each lemma names. -/
namespace Go.Proofs.Ytopncifebldklaa
set_option linter.unusedVariables false
set_option linter.unusedSimpArgs false
open Go.RowKit

theorem elem_node : Elem Try.prog 26 29 (.agg #[.int .i64 0, .int .i64 0, .int .i64 0, .int .i64 0, .bool false, .int .i64 0]) 6 48 := ⟨Try.underlying26, by kernel_rfl, rfl, by omega, by omega⟩
theorem elem_trees : Elem Try.prog 23 26 (.slice none 0 0) 1 24 := ⟨Try.underlying23, by kernel_rfl, rfl, by omega, by omega⟩
theorem nodes_one (l : List Nd) : ∀ u ∈ l.flatMap Nd.cells, u.oneCell' = true := by
  intro u hu
  obtain ⟨s, _, h⟩ := List.mem_flatMap.1 hu
  simp [Nd.cells] at h
  rcases h with rfl | rfl | rfl | rfl | rfl | rfl <;> rfl
theorem trees_one (l : List Tr) : ∀ u ∈ l.map Tr.val, u.oneCell' = true := by
  intro u hu
  obtain ⟨s, _, h⟩ := List.mem_map.1 hu
  subst h
  rfl

theorem Reads.far {w : World} {B size n : Nat} {A : Option Addr} {xs : List Value} (h : Reads w B size A n xs) {p : Addr} (hne : 0 < n → ∀ a, A = some a → a.block ≠ p.block) (u : Value) : Reads (w.setCell p u) B size A n xs :=
  ⟨h.1, fun hn => by
    obtain ⟨ad, e, hb, hc⟩ := h.2 hn
    refine ⟨ad, e, hb, fun j v hv => ?_⟩
    rw [← hc j v hv]
    exact World.cell?_of_block (by rw [block_of_add]; exact Below.heap_setCell w p u _ (hne hn ad e))⟩
theorem set_self {α : Type} {l : List α} {k : Nat} {x : α} (h : l[k]? = some x) : l.set k x = l := by
  obtain ⟨hk, e⟩ := List.getElem?_eq_some_iff.1 h
  rw [← e]; exact List.set_getElem_self hk
theorem own_far {w : World} {base : Nat} {e : TypeId} {size n : Nat} {v : Value} {xs : List Value} (h : w.ownsRow base e size v n xs) {p : Addr} (hne : ∀ k, v.ownBlock = some k → k ≠ p.block) (u : Value) : (w.setCell p u).ownsRow base e size v n xs := by
  refine h.kept (row := some p.block) (only_setCell (World.grownBy.refl w _) (.inl rfl) u) ?_
  rcases hv : v.ownBlock with _ | k
  · exact .inl rfl
  · exact .inr fun e => hne k hv (by injection e)
theorem own_low {w : World} {base base' : Nat} {e : TypeId} {size n : Nat} {v : Value} {xs : List Value} (h : w.ownsRow base e size v n xs) (hb : base' ≤ base) : w.ownsRow base' e size v n xs := by
  rcases h.2 with h0 | ⟨g, cap, cur, hv, hg, h1⟩
  · exact ⟨h.1, .inl h0⟩
  · exact ⟨h.1, .inr ⟨g, cap, cur, hv, by omega, h1⟩⟩
theorem Reads.none0 {w : World} {B size n : Nat} {xs : List Value} (h : Reads w B size none n xs) : n = 0 := by
  rcases Nat.eq_zero_or_pos n with h0 | h0
  · exact h0
  · obtain ⟨_, e, _⟩ := h.2 h0; cases e

set_option maxRecDepth 100000 in
theorem cloneN_any (A : Option Addr) (n c B : Nat) (l : List Nd) (w : World) (hr : NReads w B A n l) (hB : B ≤ w.heap.size) (hn : n ≤ 100000000) (hA : A = none → c = 0) :
    Calls Try.prog 39 #[.slice A n c] w fun e w' => ∃ v, e = .returned v ∧ w'.ownsRow w.heap.size 29 6 v n (l.flatMap Nd.cells) ∧ Below w.heap.size w w' := by
  have hl := hr.len
  rcases A with _ | a
  · have hn0 : n = 0 := Reads.none0 hr
    obtain rfl := hA rfl
    subst hn0
    obtain rfl : l = [] := List.eq_nil_of_length_eq_zero hl
    have hq := fun (W : World) => Lib.run_eql_slice_nil (P := Try.prog) W 26 29 none 0 0 0 0 Try.underlying26
    go_enter Try.func39, Try.ntmps39
    go_wp2_with fail
    go_ret
    exact ⟨_, rfl, World.ownsRow_nil _ _ _ _, Below.refl _ _⟩
  · have hq := fun (W : World) => Lib.run_eql_slice_nil (P := Try.prog) W 26 29 (some a) n c 0 0 Try.underlying26
    have hown0 := own_new (w := w) (B := w.heap.size) [] 29 6 0 rfl (by decide) (Nat.le_refl _)
    have hra := Reads.alloc hr hB (.cells #[] 29)
    go_enter Try.func39, Try.ntmps39
    go_wp2_with (at_builtin; refine app_many elem_node (.tmp 5) (.tmp 6) rfl rfl rfl hown0 rfl hra (nodes_one l) (by omega) (by rw [World.size_alloc]; omega) ?_; intro v2 w2 hown2 hb2 _)
    go_ret
    refine ⟨v2, rfl, ?_, ((Below.refl _ _).alloc (Nat.le_refl _) _).trans hb2⟩
    simpa using hown2
set_option maxRecDepth 100000 in
theorem cloneT_any (A : Option Addr) (n c B : Nat) (l : List Tr) (w : World) (hr : Reads w B 1 A n (l.map Tr.val)) (hB : B ≤ w.heap.size) (hn : n ≤ 100000000) (hA : A = none → c = 0) :
    Calls Try.prog 38 #[.slice A n c] w fun e w' => ∃ v, e = .returned v ∧ w'.ownsRow w.heap.size 26 1 v n (l.map Tr.val) ∧ Below w.heap.size w w' := by
  have hl : l.length = n := by have := hr.1; simpa using this
  rcases A with _ | a
  · have hn0 : n = 0 := Reads.none0 hr
    obtain rfl := hA rfl
    subst hn0
    obtain rfl : l = [] := List.eq_nil_of_length_eq_zero hl
    have hq := fun (W : World) => Lib.run_eql_slice_nil (P := Try.prog) W 23 26 none 0 0 0 0 Try.underlying23
    go_enter Try.func38, Try.ntmps38
    go_wp2_with fail
    go_ret
    exact ⟨_, rfl, World.ownsRow_nil _ _ _ _, Below.refl _ _⟩
  · have hq := fun (W : World) => Lib.run_eql_slice_nil (P := Try.prog) W 23 26 (some a) n c 0 0 Try.underlying23
    have hown0 := own_new (w := w) (B := w.heap.size) [] 26 1 0 rfl (by decide) (Nat.le_refl _)
    have hra := Reads.alloc hr hB (.cells #[] 26)
    go_enter Try.func38, Try.ntmps38
    go_wp2_with (at_builtin; refine app_many elem_trees (.tmp 5) (.tmp 6) rfl rfl rfl hown0 rfl hra (trees_one l) (by omega) (by rw [World.size_alloc]; omega) ?_; intro v2 w2 hown2 hb2 _)
    go_ret
    refine ⟨v2, rfl, ?_, ((Below.refl _ _).alloc (Nat.le_refl _) _).trans hb2⟩
    simpa using hown2

/-- a grove whose weights and whose row of trees are the call's own -/
structure GOwn (w : World) (base : Nat) (g : Gv) : Prop where
  ws : w.ownsRow base 3 1 (.slice g.Aw g.nw g.cw) g.nw (g.ws.map (Value.int .i64))
  ts : w.ownsRow base 26 1 (.slice g.At g.nt g.ct) g.nt (g.ts.map Tr.val)
  each : ∀ r ∈ g.ts, TrOk w w.heap.size r ∧ (0 < r.n → ∀ a, r.A = some a → (Value.slice g.At g.nt g.ct).ownBlock ≠ some a.block ∧ (Value.slice g.Aw g.nw g.cw).ownBlock ≠ some a.block ∧ base ≤ a.block)
theorem own_nil {w : World} {base : Nat} {e : TypeId} {size n c : Nat} {xs : List Value} (h : w.ownsRow base e size (.slice none n c) n xs) : c = 0 ∧ n = 0 := by
  rcases h.2 with ⟨e, h⟩ | ⟨g, cap, cur, e, _⟩
  · injection e with _ _ e; exact ⟨e, h⟩
  · cases e
theorem own_len {w : World} {base : Nat} {e : TypeId} {size n : Nat} {v : Value} {xs : List Value} (h : w.ownsRow base e size v n xs) : n ≤ maxLen := by
  rcases h.2 with ⟨_, rfl⟩ | ⟨g, cap, cur, _, _, _, h1, h2, _⟩
  · exact Nat.zero_le _
  · omega
theorem GOwn.reads {w : World} {base : Nat} {g : Gv} (h : GOwn w base g) : GReads w w.heap.size g :=
  ⟨Reads.of_own h.ws, ⟨Reads.of_own h.ts, fun r hr => (h.each r hr).1⟩, own_len h.ws, own_len h.ts, fun e => by have := h.ws; rw [e] at this; exact (own_nil this).1, fun e => by have := h.ts; rw [e] at this; exact (own_nil this).1⟩

/-- a copy of a grove -/
def ClonePost (g : Gv) (w : World) (e : Ending) (w' : World) : Prop :=
  ∃ g' : Gv, e = .returned g'.val ∧ g'.f = g.f ∧ g'.way = g.way ∧ g'.ws = g.ws ∧ g'.trees = g.trees ∧ GOwn w' w.heap.size g' ∧ Below w.heap.size w w'

set_option maxRecDepth 100000 in
set_option maxHeartbeats 2000000 in
theorem gclone_any (g : Gv) (w : World) (hr : GReads w w.heap.size g) (hw : g.nw ≤ 100000) (ht : g.nt ≤ 100000) (hts : ∀ r ∈ g.ts, r.n ≤ 100000) :
    Calls Try.prog 21 #[g.val] w (ClonePost g w) := by
  obtain ⟨f, way, Aw, nw, cw, ws, At, nt, ct, ts⟩ := g
  have hlw := hr.ws.len
  have hlt := hr.ts.len
  have hwr := hr.ws
  have htr := hr.ts
  have hnilw := hr.nilw
  have hnilt := hr.nilt
  clear hr
  dsimp only at hlw hlt hw ht hwr htr hnilw hnilt hts
  simp only [Gv.val]
  have HTS := hide hts
  clear hts
  go_enter Try.func21, Try.ntmps21
  go_wp2_with fail
  obtain ⟨W, hW⟩ : ∃ W, W = ((w.alloc (.cells #[.int .i64 f, .int .i64 way, .slice Aw nw cw, .slice At nt ct] 25)).alloc (.cells #[.int .i64 0, .int .i64 0, .slice none 0 0, .slice none 0 0] 25)) := ⟨_, rfl⟩
  rw [← hW]
  have b1 : Blk W w.heap.size 25 #[.int .i64 f, .int .i64 way, .slice Aw nw cw, .slice At nt ct] := by rw [hW]; exact (Blk.new _ _ _).alloc _
  have b2 : Blk W (w.heap.size + 1) 25 #[.int .i64 0, .int .i64 0, .slice none 0 0, .slice none 0 0] := by
    rw [hW]
    have := Blk.new (w.alloc (.cells #[.int .i64 f, .int .i64 way, .slice Aw nw cw, .slice At nt ct] 25)) 25 #[.int .i64 0, .int .i64 0, .slice none 0 0, .slice none 0 0]
    rwa [World.size_alloc] at this
  have hWs : W.heap.size = w.heap.size + 2 := by rw [hW]; simp
  have hb0 : Below w.heap.size w W := by rw [hW]; exact ((Below.refl _ _).alloc (Nat.le_refl _) _).alloc (by simp) _
  clear hW
  refine (cloneI_any Aw nw cw w.heap.size ws W (hwr.below hb0) (by omega) (by omega) hnilw).mono ?_
  rintro e w1 ⟨v1, rfl, ho1, hb1⟩
  have z1 := hb1.size
  have b11 := b1.below hb1 (by omega)
  have b21 := b2.below hb1 (by omega)
  have hB1 := hb0.trans (hb1.mono (by omega))
  have c12 := b11.cell 2
  have f12 := b11.frozen 2
  have c13 := b11.cell 3
  simp at c12 c13
  have ho1 : w1.ownsRow W.heap.size 3 1 v1 nw (ws.map (Value.int .i64)) := by have := ho1; unfold IOwn at this; rwa [hlw] at this
  obtain ⟨A1, d1, hv1, _, _, _⟩ := own_slice ho1
  subst hv1
  have hz1 : w.heap.size + 2 ≤ w1.heap.size := by omega
  clear hb1 b1 b2
  go_wp2_with fail
  have hbs : Below w.heap.size w (w1.setCell ⟨w.heap.size, 2, none⟩ (.slice A1 nw d1)) := hB1.setCell (p := ⟨w.heap.size, 2, none⟩) (Nat.le_refl _) _
  have b12 := b11.set_ 2 (.slice A1 nw d1)
  have b22 := b21.far (p := ⟨w.heap.size, 2, none⟩) (by show w.heap.size + 1 ≠ w.heap.size; omega) (.slice A1 nw d1)
  have ho2 := own_far ho1 (p := ⟨w.heap.size, 2, none⟩) (fun k hk => by have := own_block_ge ho1 k hk; show k ≠ w.heap.size; omega) (.slice A1 nw d1)
  have hz2 : w.heap.size + 2 ≤ (w1.setCell ⟨w.heap.size, 2, none⟩ (.slice A1 nw d1)).heap.size := by simpa [World.setCell] using hz1
  clear b11 b21 c12 c13 f12 ho1 hB1
  generalize w1.setCell ⟨w.heap.size, 2, none⟩ (.slice A1 nw d1) = W2 at *
  simp at b12
  have c3 := b12.cell 3
  simp at c3
  refine (cloneT_any At nt ct w.heap.size ts W2 (htr.1.below hbs) (by omega) (by omega) hnilt).mono ?_
  rintro e w3 ⟨v3, rfl, ho3, hb3⟩
  have z3 := hb3.size
  have b13 := b12.below hb3 (by omega)
  have b23 := b22.below hb3 (by omega)
  have hB3 := hbs.trans (hb3.mono (by omega))
  obtain ⟨A3, d3, hv3, _, _, _⟩ := own_slice ho3
  subst hv3
  have hn3 : ∀ k, (Value.slice A3 nt d3).ownBlock = some k → W2.heap.size ≤ k ∧ k < w3.heap.size := ho3.lt
  have hn1 : ∀ k, (Value.slice A1 nw d1).ownBlock = some k → W.heap.size ≤ k ∧ k < W2.heap.size := ho2.lt
  have ho2' := own_below ho2 hb3
  have c33 := b13.cell 3
  have f33 := b13.frozen 3
  simp at c33
  go_wp2_with fail
  have hbs3 : Below w.heap.size w (w3.setCell ⟨w.heap.size, 3, none⟩ (.slice A3 nt d3)) := hB3.setCell (p := ⟨w.heap.size, 3, none⟩) (Nat.le_refl _) _
  have b14 := b13.set_ 3 (.slice A3 nt d3)
  have b24 := b23.far (p := ⟨w.heap.size, 3, none⟩) (by show w.heap.size + 1 ≠ w.heap.size; omega) (.slice A3 nt d3)
  have ho4 := own_far ho3 (p := ⟨w.heap.size, 3, none⟩) (fun k hk => by have := (hn3 k hk).1; show k ≠ w.heap.size; omega) (.slice A3 nt d3)
  have ho5 := own_far ho2' (p := ⟨w.heap.size, 3, none⟩) (fun k hk => by have := (hn1 k hk).1; show k ≠ w.heap.size; omega) (.slice A3 nt d3)
  have hz4 : w.heap.size + 2 ≤ (w3.setCell ⟨w.heap.size, 3, none⟩ (.slice A3 nt d3)).heap.size := by simp [World.setCell]; omega
  have hn3' : ∀ k, (Value.slice A3 nt d3).ownBlock = some k → w.heap.size + 2 ≤ k := fun k hk => by have := hn3 k hk; omega
  have hn1' : ∀ k, (Value.slice A1 nw d1).ownBlock = some k → w.heap.size + 2 ≤ k ∧ (Value.slice A3 nt d3).ownBlock ≠ some k := fun k hk => ⟨by have := hn1 k hk; omega, fun e => by have := hn1 k hk; have := hn3 k e; omega⟩
  have hts0 : ∀ (i : Nat) r, ts[i]? = some r → TrOk (w3.setCell ⟨w.heap.size, 3, none⟩ (.slice A3 nt d3)) (w3.setCell ⟨w.heap.size, 3, none⟩ (.slice A3 nt d3)).heap.size r ∧ (0 < r.n → ∀ a, r.A = some a → (Value.slice A3 nt d3).ownBlock ≠ some a.block ∧ (Value.slice A1 nw d1).ownBlock ≠ some a.block ∧ (i < 0 → w.heap.size ≤ a.block)) := fun i r hi => by
    have hr := List.mem_of_getElem? hi
    have h1 := (htr.2 r hr).below hbs3
    refine ⟨h1.more (by omega), fun hn a ha => ?_⟩
    obtain ⟨ad, e', hb', _⟩ := h1.reads.2 hn
    rw [ha] at e'; injection e' with e'; subst e'
    refine ⟨fun e => ?_, fun e => ?_, fun h => by omega⟩
    · have := hn3' _ e
      omega
    · have := (hn1' _ e).1
      omega
  clear b13 b23 c33 f33 ho2' ho3 hB3 hn3 hn1 ho2 hb3 b12 b22 c3 z3
  generalize w3.setCell ⟨w.heap.size, 3, none⟩ (.slice A3 nt d3) = W4 at *
  simp at b14
  have HLT := hide hlt
  clear hbs hlt hlw hwr htr
  go_loopw [16] (fun i wr => ∃ (k : Nat) (ts' : List Tr), k ≤ nt ∧ i = .int .i64 k ∧ Hid (ts'.map Tr.l = ts.map Tr.l) ∧ Hid (∀ r ∈ ts', r.n ≤ 100000) ∧
      Hid (∀ (i : Nat) r, ts'[i]? = some r → TrOk wr wr.heap.size r ∧ (0 < r.n → ∀ a, r.A = some a → (Value.slice A3 nt d3).ownBlock ≠ some a.block ∧ (Value.slice A1 nw d1).ownBlock ≠ some a.block ∧ (i < k → w.heap.size ≤ a.block))) ∧
      wr.ownsRow w.heap.size 26 1 (.slice A3 nt d3) nt (ts'.map Tr.val) ∧ wr.ownsRow w.heap.size 3 1 (.slice A1 nw d1) nw (ws.map (Value.int .i64)) ∧
      Blk wr (w.heap.size + 1) 25 #[.int .i64 0, .int .i64 0, .slice none 0 0, .slice none 0 0] ∧ Blk wr w.heap.size 25 #[.int .i64 f, .int .i64 way, .slice A1 nw d1, .slice A3 nt d3] ∧ Below w.heap.size w wr) (fun i _ => nt - (intOf i).toNat)
  case atStart => exact ⟨0, ts, Nat.zero_le _, rfl, hide rfl, HTS, hide hts0, own_low ho4 (by omega), own_low ho5 (by omega), b24, b14, hbs3⟩
  case round =>
    clear ho4 ho5 b24 b14 hbs3 hts0
    obtain ⟨k, ts', hk, rfl, HL, HN, HR, ho4, ho5, b24, b14, hbel⟩ := hrel
    have hsz := hbel.size
    have c13 := b14.cell 3
    simp at c13
    have bl1 := b14.lt
    have bl2 := b24.lt
    by_cases hlk : k < nt
    · obtain ⟨g, cap, hv, hgb, hgl⟩ := ho4.form (by omega)
      cases hv
      have hl' : ts'.length = nt := by have := ho4.1; simpa using this
      have hr' : ts'[k]? = some ts'[k] := List.getElem?_eq_getElem (by omega)
      obtain ⟨r, hre⟩ : ∃ r, r = ts'[k] := ⟨_, rfl⟩
      rw [← hre] at hr'
      have hm := List.mem_of_getElem? hr'
      have cg := ho4.cellAt k (by omega)
      have fg := ho4.frozenAt k
      rw [List.getElem?_map, hr'] at cg
      obtain ⟨hok, hfar⟩ := unhide HR k r hr'
      have hrn := unhide HN r hm
      have HM := hide hr'
      obtain ⟨rA, rn, rc, rl⟩ := r
      simp only [Option.map_some, Tr.val] at cg
      dsimp only at hrn hfar
      have hcl := fun (W : World) (h : NReads W wr.heap.size rA rn rl) (hB : wr.heap.size ≤ W.heap.size) => cloneN_any rA rn rc wr.heap.size rl W h hB (by omega) hok.nil
      have hrr := hok.reads
      dsimp only at hrr
      clear hm hre hr' hok hl'
      have HCL := hide hcl
      have HF := hide hfar
      clear hcl hfar
      have hg2 := hn3' g rfl
      have HN3 := hide hn3'
      clear hn3'
      go_wp2_with fail
      go_region_held3 (fun w' => w'.cell? ⟨w.heap.size, 3, none⟩ = some (.slice (some ⟨g, 0, none⟩) nt d3))
        (first | go_keep | (go_split_ands; rw [hbc.cell (p := ⟨w.heap.size, 3, none⟩) (by simp; omega)]; assumption) | (go_split_ands; rw [World.cell?_setCell_other _ _ _ _ (fun e => by injection e; omega), hbc.cell (p := ⟨w.heap.size, 3, none⟩) (by simp; omega)]; assumption))
        ((go_at_call 39; refine (unhide HCL _ (Reads.drew hrr) (by simp)).mono ?_; rintro e wc ⟨vc, rfl, hownc, hbc⟩; obtain ⟨Ac, dc, hvc, _, _, _⟩ := own_slice hownc; subst hvc; have cgc : wc.cell? ⟨g, k, none⟩ = some (.slice rA rn rc) := (hbc.cell (p := ⟨g, k, none⟩) (by simp; omega)).trans cg; have fgc : wc.frozen? ⟨g, k, none⟩ = false := (hbc.frozen (p := ⟨g, k, none⟩) (by simp; omega)).trans fg))
      have hbw : Below wr.heap.size wr wc := ((Below.refl wr.heap.size wr).drew).trans hbc
      have hzc := hbw.size
      have ho4c := own_below ho4 hbw
      have ho5c := own_below ho5 hbw
      obtain ⟨hst, hgr⟩ := ho4c.stored k (.slice Ac rn dc)
      have hbs2 : Below w.heap.size wc (wc.setCell ⟨g, k, none⟩ (.slice Ac rn dc)) := (Below.refl _ _).setCell (p := ⟨g, k, none⟩) hgb _
      have ho6 := own_far ho5c (p := ⟨g, k, none⟩) (fun q hq e => (hn1' q hq).2 (by rw [e]; rfl)) (.slice Ac rn dc)
      have bb1 := (b14.below hbw bl1).far (p := ⟨g, k, none⟩) (by show w.heap.size ≠ g; omega) (.slice Ac rn dc)
      have bb2 := (b24.below hbw bl2).far (p := ⟨g, k, none⟩) (by show w.heap.size + 1 ≠ g; omega) (.slice Ac rn dc)
      have hown7 := own_far hownc (p := ⟨g, k, none⟩) (fun q hq e => by have := own_block_ge hownc q hq; simp at this e; omega) (.slice Ac rn dc)
      have hzs : (wc.setCell ⟨g, k, none⟩ (.slice Ac rn dc)).heap.size = wc.heap.size := by simp [World.setCell]
      have hR2 : Hid (∀ (i : Nat) r, (ts'.set k ⟨Ac, rn, dc, rl⟩)[i]? = some r → TrOk (wc.setCell ⟨g, k, none⟩ (.slice Ac rn dc)) (wc.setCell ⟨g, k, none⟩ (.slice Ac rn dc)).heap.size r ∧ (0 < r.n → ∀ a, r.A = some a → (Value.slice (some ⟨g, 0, none⟩) nt d3).ownBlock ≠ some a.block ∧ (Value.slice A1 nw d1).ownBlock ≠ some a.block ∧ (i < k + 1 → w.heap.size ≤ a.block))) := hide (fun i r hr => by
        by_cases hik : k = i
        · subst hik
          rw [List.getElem?_set_self (List.getElem?_eq_some_iff.1 (unhide HM)).1] at hr
          injection hr with hr
          subst hr
          refine ⟨⟨?_, own_len hown7, fun e => ?_⟩, fun hn a ha => ?_⟩
          · exact Reads.of_own hown7
          · dsimp only at e; rw [e] at hown7; exact (own_nil hown7).1
          · dsimp only at ha
            have := own_block_ge hownc a.block (by rw [ha]; rfl)
            have h1 := fun q hq => (ho5.lt q hq).2
            refine ⟨fun e => ?_, fun e => ?_, fun _ => ?_⟩
            · simp [Value.ownBlock] at this e
              omega
            · have := h1 _ e
              simp at *
              omega
            · simp at this
              omega
        · rw [List.getElem?_set_ne hik] at hr
          obtain ⟨h1, h2⟩ := unhide HR i r hr
          have h3 : TrOk wc wc.heap.size r := (h1.below hbw).more hzc
          refine ⟨⟨?_, h3.len, h3.nil⟩, fun hn a ha => ⟨(h2 hn a ha).1, (h2 hn a ha).2.1, fun hi => (h2 hn a ha).2.2 (by omega)⟩⟩
          rw [hzs]
          exact Reads.far h3.reads (fun hn a ha e => (h2 hn a ha).1 (by rw [e]; rfl)) _)
      have hN2 : Hid (∀ r ∈ ts'.set k ⟨Ac, rn, dc, rl⟩, r.n ≤ 100000) := hide (fun r hr => by
        rcases List.mem_or_eq_of_mem_set hr with hr | rfl
        · exact unhide HN r hr
        · exact hrn)
      have hL2 : Hid ((ts'.set k ⟨Ac, rn, dc, rl⟩).map Tr.l = ts.map Tr.l) := hide (by
        rw [← unhide HL, List.map_set]
        exact set_self (by rw [List.getElem?_map, unhide HM]; rfl))
      have hst2 : (wc.setCell ⟨g, k, none⟩ (.slice Ac rn dc)).ownsRow w.heap.size 26 1 (.slice (some ⟨g, 0, none⟩) nt d3) nt ((ts'.set k ⟨Ac, rn, dc, rl⟩).map Tr.val) := by
        rw [List.map_set]; exact hst
      have hbel2 := (hbel.trans (hbw.mono hsz)).trans hbs2
      clear hst hgr ho4c ho5c hbs2 hownc hown7 cgc fgc HR HN ho4 ho5 b14 b24 c13 cg fg HCL HF HN3 hbc hbw
      generalize wc.setCell ⟨g, k, none⟩ (.slice Ac rn dc) = W6 at *
      go_wp2_with fail
      go_roundw
      case rel => exact ⟨k + 1, _, by omega, by go_num, hL2, hN2, hR2, hst2, ho6, bb2, bb1, hbel2⟩
      case measure => simp [intOf]; omega
    · obtain rfl : k = nt := by omega
      have c10 := b14.cell 0
      have c11 := b14.cell 1
      have c12 := b14.cell 2
      have c20 := b24.cell 0
      have c21 := b24.cell 1
      have c22 := b24.cell 2
      have c23 := b24.cell 3
      have f20 := b24.frozen 0
      have f21 := b24.frozen 1
      have f22 := b24.frozen 2
      have f23 := b24.frozen 3
      simp at c10 c11 c12 c20 c21 c22 c23
      have hq1 : ∀ o, ∀ q, (Value.slice A1 nw d1).ownBlock = some q → q ≠ (⟨w.heap.size + 1, o, none⟩ : Addr).block := fun o q hq => by have := (hn1' q hq).1; show q ≠ w.heap.size + 1; omega
      have hq3 : ∀ o, ∀ q, (Value.slice A3 k d3).ownBlock = some q → q ≠ (⟨w.heap.size + 1, o, none⟩ : Addr).block := fun o q hq => by have := hn3' q hq; show q ≠ w.heap.size + 1; omega
      have hBB : Below w.heap.size w (((((wr.setCell ⟨w.heap.size + 1, 0, none⟩ (.int .i64 f)).setCell ⟨w.heap.size + 1, 1, none⟩ (.int .i64 way)).setCell ⟨w.heap.size + 1, 2, none⟩ (.slice A1 nw d1)).setCell ⟨w.heap.size + 1, 3, none⟩ (.slice A3 k d3))) :=
        (((hbel.setCell (p := ⟨w.heap.size + 1, 0, none⟩) (by show w.heap.size ≤ w.heap.size + 1; omega) _).setCell (p := ⟨w.heap.size + 1, 1, none⟩) (by show w.heap.size ≤ w.heap.size + 1; omega) _).setCell (p := ⟨w.heap.size + 1, 2, none⟩) (by show w.heap.size ≤ w.heap.size + 1; omega) _).setCell (p := ⟨w.heap.size + 1, 3, none⟩) (by show w.heap.size ≤ w.heap.size + 1; omega) _
      have hG : Hid (GOwn ((((wr.setCell ⟨w.heap.size + 1, 0, none⟩ (.int .i64 f)).setCell ⟨w.heap.size + 1, 1, none⟩ (.int .i64 way)).setCell ⟨w.heap.size + 1, 2, none⟩ (.slice A1 nw d1)).setCell ⟨w.heap.size + 1, 3, none⟩ (.slice A3 k d3)) w.heap.size ⟨f, way, A1, nw, d1, ws, A3, k, d3, ts'⟩) := hide (by
        refine ⟨own_far (own_far (own_far (own_far ho5 (hq1 0) _) (hq1 1) _) (hq1 2) _) (hq1 3) _, own_far (own_far (own_far (own_far ho4 (hq3 0) _) (hq3 1) _) (hq3 2) _) (hq3 3) _, fun r hr => ?_⟩
        obtain ⟨i, hi⟩ := List.mem_iff_getElem?.1 hr
        obtain ⟨h1, h2⟩ := unhide HR i r hi
        change ts'[i]? = some r at hi
        have hik : i < k := by have := (List.getElem?_eq_some_iff.1 hi).1; have := ho4.1; simp at this; omega
        refine ⟨⟨?_, h1.len, h1.nil⟩, fun hn a ha => ⟨(h2 hn a ha).1, (h2 hn a ha).2.1, (h2 hn a ha).2.2 hik⟩⟩
        have hz : ((((wr.setCell ⟨w.heap.size + 1, 0, none⟩ (.int .i64 f)).setCell ⟨w.heap.size + 1, 1, none⟩ (.int .i64 way)).setCell ⟨w.heap.size + 1, 2, none⟩ (.slice A1 nw d1)).setCell ⟨w.heap.size + 1, 3, none⟩ (.slice A3 k d3)).heap.size = wr.heap.size := by simp [World.setCell]
        rw [hz]
        have hne : ∀ o, 0 < r.n → ∀ a, r.A = some a → a.block ≠ (⟨w.heap.size + 1, o, none⟩ : Addr).block := fun o hn a ha e => by
          obtain ⟨b, off, x, ea, _, _, _, _, _, _, _, c5⟩ := h1.reads.get hn
          rw [ha] at ea
          injection ea with ea
          subst ea
          dsimp only at e
          subst e
          rw [b24.cell] at c5
          simp at c5
        exact Reads.far (Reads.far (Reads.far (Reads.far h1.reads (hne 0) _) (hne 1) _) (hne 2) _) (hne 3) _)
      have bF := (((b24.set_ 0 (.int .i64 f)).set_ 1 (.int .i64 way)).set_ 2 (.slice A1 nw d1)).set_ 3 (.slice A3 k d3)
      simp at bF
      clear hq1 hq3
      go_wp2_with fail
      generalize (((wr.setCell ⟨w.heap.size + 1, 0, none⟩ (.int .i64 f)).setCell ⟨w.heap.size + 1, 1, none⟩ (.int .i64 way)).setCell ⟨w.heap.size + 1, 2, none⟩ (.slice A1 nw d1)).setCell ⟨w.heap.size + 1, 3, none⟩ (.slice A3 k d3) = WF at *
      have k0 := bF.cell 0
      have k1 := bF.cell 1
      have k2 := bF.cell 2
      have k3 := bF.cell 3
      simp at k0 k1 k2 k3
      refine bodyPost_ret (v := .agg #[.int .i64 f, .int .i64 way, .slice A1 nw d1, .slice A3 k d3]) (by simp [results, Try.results21, go_sem, k0, k1, k2, k3]) rfl ⟨⟨f, way, A1, nw, d1, ws, A3, k, d3, ts'⟩, rfl, rfl, rfl, rfl, unhide HL, unhide hG, hBB⟩
end Go.Proofs.Ytopncifebldklaa
/- Votes: the plain maths of what values of trees come to together. Conditions: none beyond what each lemma names. -/
namespace Go.Proofs.Ytopncifebldklaa
set_option linter.unusedVariables false
set_option linter.unusedSimpArgs false

/-- values, each with its weight -/
abbrev Ps := List (Int × Int)
def pSum (ps : Ps) : Int := (ps.map fun p => p.1 * p.2).sum
def pAll (ps : Ps) : Int := (ps.map fun p => p.2).sum
def pVotes (ps : Ps) (v : Int) : Int := ((ps.filter fun p => p.1 == v).map fun p => p.2).sum
theorem pSum_snoc (ps : Ps) (p : Int × Int) : pSum (ps ++ [p]) = pSum ps + p.1 * p.2 := by simp [pSum, List.sum_append]
theorem pAll_snoc (ps : Ps) (p : Int × Int) : pAll (ps ++ [p]) = pAll ps + p.2 := by simp [pAll, List.sum_append]
theorem pVotes_snoc_same (ps : Ps) (p : Int × Int) : pVotes (ps ++ [p]) p.1 = pVotes ps p.1 + p.2 := by
  unfold pVotes
  rw [List.filter_append, List.map_append, List.sum_append]
  simp
theorem pVotes_snoc_other (ps : Ps) (p : Int × Int) {v : Int} (h : p.1 ≠ v) : pVotes (ps ++ [p]) v = pVotes ps v := by
  unfold pVotes
  rw [List.filter_append, List.map_append, List.sum_append]
  simp [h]
theorem pVotes_none {ps : Ps} {v : Int} (h : v ∉ ps.map (·.1)) : pVotes ps v = 0 := by
  unfold pVotes
  rw [List.filter_eq_nil_iff.2]
  · rfl
  · intro p hp
    simp only [beq_iff_eq]
    rintro rfl
    exact h (List.mem_map.2 ⟨p, hp, rfl⟩)
theorem pVotes_in {ps : Ps} {v : Int} (hw : ∀ p ∈ ps, 0 ≤ p.2 ∧ p.2 ≤ 1000) : 0 ≤ pVotes ps v ∧ pVotes ps v ≤ 1000 * ps.length := by
  induction ps with
  | nil => simp [pVotes]
  | cons p r ih =>
    have h1 := hw p (List.mem_cons_self ..)
    obtain ⟨h2, h3⟩ := ih fun q hq => hw q (List.mem_cons_of_mem _ hq)
    unfold pVotes at h2 h3 ⊢
    rw [List.filter_cons, List.length_cons]
    split
    · rw [List.map_cons, List.sum_cons]; omega
    · omega
theorem pVotes_pos {ps : Ps} {v : Int} (hw : ∀ p ∈ ps, 1 ≤ p.2) (h : v ∈ ps.map (·.1)) : 1 ≤ pVotes ps v := by
  induction ps with
  | nil => simp at h
  | cons p r ih =>
    have h1 := hw p (List.mem_cons_self ..)
    have h0 : 0 ≤ pVotes r v := by
      by_cases hv : v ∈ r.map (·.1)
      · have := ih (fun q hq => hw q (List.mem_cons_of_mem _ hq)) hv; omega
      · rw [pVotes_none hv]; exact Int.le_refl _
    rw [List.map_cons, List.mem_cons] at h
    by_cases e : p.1 = v
    · unfold pVotes at h0 ⊢
      rw [List.filter_cons, if_pos (by simpa using e), List.map_cons, List.sum_cons]; omega
    · rcases h with h | h
      · exact absurd h.symm e
      · have := ih (fun q hq => hw q (List.mem_cons_of_mem _ hq)) h
        unfold pVotes at this ⊢
        rw [List.filter_cons, if_neg (by simpa using e)]; exact this
theorem pSum_in {ps : Ps} (hv : ∀ p ∈ ps, -1000000000 ≤ p.1 * p.2 ∧ p.1 * p.2 ≤ 1000000000) : -1000000000 * (ps.length : Int) ≤ pSum ps ∧ pSum ps ≤ 1000000000 * ps.length := by
  induction ps with
  | nil => simp [pSum]
  | cons p r ih =>
    have h1 := hv p (List.mem_cons_self ..)
    obtain ⟨h2, h3⟩ := ih fun q hq => hv q (List.mem_cons_of_mem _ hq)
    unfold pSum at h2 h3 ⊢
    rw [List.map_cons, List.sum_cons, List.length_cons]
    omega
theorem pAll_in {ps : Ps} (hw : ∀ p ∈ ps, 1 ≤ p.2 ∧ p.2 ≤ 1000) : (ps.length : Int) ≤ pAll ps ∧ pAll ps ≤ 1000 * ps.length := by
  induction ps with
  | nil => simp [pAll]
  | cons p r ih =>
    have h1 := hw p (List.mem_cons_self ..)
    obtain ⟨h2, h3⟩ := ih fun q hq => hw q (List.mem_cons_of_mem _ hq)
    unfold pAll at h2 h3 ⊢
    rw [List.map_cons, List.sum_cons, List.length_cons]
    omega
theorem mul_in {x y : Int} (hx : -1000000 ≤ x ∧ x ≤ 1000000) (hy : 0 ≤ y ∧ y ≤ 1000) : -1000000000 ≤ x * y ∧ x * y ≤ 1000000000 := by
  have h1 : x * y ≤ 1000000 * y := Int.mul_le_mul_of_nonneg_right hx.2 hy.1
  have h2 : -1000000 * y ≤ x * y := Int.mul_le_mul_of_nonneg_right hx.1 hy.1
  omega

/-- the vote: of the values with most weight the least -/
structure IsVote (ps : Ps) (b : Int) : Prop where
  mem : b ∈ ps.map (·.1)
  most : ∀ v ∈ ps.map (·.1), pVotes ps v ≤ pVotes ps b
  least : ∀ v ∈ ps.map (·.1), pVotes ps v = pVotes ps b → b ≤ v
theorem IsVote.eq {ps : Ps} {a b : Int} (ha : IsVote ps a) (hb : IsVote ps b) : a = b := by
  have h1 := ha.most b hb.mem
  have h2 := hb.most a ha.mem
  have h3 := ha.least b hb.mem (by omega)
  have h4 := hb.least a ha.mem (by omega)
  omega
noncomputable def voteV (ps : Ps) : Int := Classical.epsilon (IsVote ps)
theorem voteV_eq {ps : Ps} {b : Int} (h : IsVote ps b) : voteV ps = b := (Classical.epsilon_spec (p := IsVote ps) ⟨b, h⟩).eq h
/-- what values come to -/
noncomputable def togV (way : Int) (ws l : List Int) : Int :=
  if way = 1 then pSum (l.zip ws) else if way = 2 then pSum (l.zip ws) / pAll (l.zip ws) else voteV (l.zip ws)

theorem foldl_max_ge (l : List Int) (a : Int) : a ≤ l.foldl max a ∧ (∀ x ∈ l, x ≤ l.foldl max a) ∧ (l.foldl max a = a ∨ l.foldl max a ∈ l) := by
  induction l generalizing a with
  | nil => simp
  | cons y r ih =>
    obtain ⟨h1, h2, h3⟩ := ih (max a y)
    rw [List.foldl_cons]
    refine ⟨by omega, fun x hx => ?_, ?_⟩
    · rcases List.mem_cons.1 hx with rfl | hx
      · omega
      · exact h2 x hx
    · rcases h3 with h3 | h3
      · rcases Int.le_total a y with h | h
        · exact .inr (by rw [h3, Int.max_eq_right h]; exact List.mem_cons_self ..)
        · exact .inl (by rw [h3, Int.max_eq_left h])
      · exact .inr (List.mem_cons_of_mem _ h3)
theorem foldl_min_le (l : List Int) (a : Int) : l.foldl min a ≤ a ∧ (∀ x ∈ l, l.foldl min a ≤ x) ∧ (l.foldl min a = a ∨ l.foldl min a ∈ l) := by
  induction l generalizing a with
  | nil => simp
  | cons y r ih =>
    obtain ⟨h1, h2, h3⟩ := ih (min a y)
    rw [List.foldl_cons]
    refine ⟨by omega, fun x hx => ?_, ?_⟩
    · rcases List.mem_cons.1 hx with rfl | hx
      · omega
      · exact h2 x hx
    · rcases h3 with h3 | h3
      · rcases Int.le_total a y with h | h
        · exact .inl (by rw [h3, Int.min_eq_left h])
        · exact .inr (by rw [h3, Int.min_eq_right h]; exact List.mem_cons_self ..)
      · exact .inr (List.mem_cons_of_mem _ h3)
theorem maxOf_spec {l : List Int} (h : l ≠ []) : Lib.maxOf l ∈ l ∧ ∀ x ∈ l, x ≤ Lib.maxOf l := by
  cases l with
  | nil => exact absurd rfl h
  | cons a r =>
    obtain ⟨h1, h2, h3⟩ := foldl_max_ge (a :: r) a
    unfold Lib.maxOf
    rw [List.headD_cons]
    refine ⟨?_, h2⟩
    rcases h3 with h3 | h3
    · rw [h3]; exact List.mem_cons_self ..
    · exact h3
theorem minOf_spec {l : List Int} (h : l ≠ []) : Lib.minOf l ∈ l ∧ ∀ x ∈ l, Lib.minOf l ≤ x := by
  cases l with
  | nil => exact absurd rfl h
  | cons a r =>
    obtain ⟨h1, h2, h3⟩ := foldl_min_le (a :: r) a
    unfold Lib.minOf
    rw [List.headD_cons]
    refine ⟨?_, h2⟩
    rcases h3 with h3 | h3
    · rw [h3]; exact List.mem_cons_self ..
    · exact h3
end Go.Proofs.Ytopncifebldklaa
/- Maps of the call's own, with elements of whatever kind: each element is held as the value that it is. Conditions: as each lemma names. -/
namespace Go.Proofs.Ytopncifebldklaa
set_option linter.unusedVariables false
set_option linter.unusedSimpArgs false
open Go.RowKit Go.Maps

/-- an element, held as it is -/
def heldR (v : Value) : Option (DataW Value × List MemPlace) := some (.held v, [])
theorem heldR_inv {v : Value} {d : DataW Value} {ps : List MemPlace} (h : heldR v = some (d, ps)) : d = .held v := by
  unfold heldR at h; injection h with h; exact (Prod.mk.inj h).1.symm
def keyI (x : Int) : Lit := .int .i64 x
theorem keyI_key {P : Program} {k : TypeId} (hk : P.underlying k = some (.int .i64)) {x : Int} (h : -9223372036854775808 ≤ x ∧ x ≤ 9223372036854775807) : keyOf P k (.int .i64 x) = some (keyI x) := keyOf_int_mk hk (WalkArith.wf_i64 h)
theorem keyI_ne {x y : Int} (h : x ≠ y) : keyI x ≠ keyI y := by intro e; injection e with _ e; exact h e
theorem keyI_is (x : Int) : WideAt.IsKeyLit (keyI x) := trivial

/-- block b is a map (of at most n entries) -/
structure MapIs (P : Program) (w : World) (k : TypeId) (b n : Nat) (D : DataW Value) : Prop where
  own : w.ownsMap P k heldR b n D
  tidy : Tidy D
section
variable {P : Program} {w w' : World} {k : TypeId} {b n : Nat} {D : DataW Value}
theorem MapIs.lt (h : MapIs P w k b n D) : b < w.heap.size := h.own.lt
theorem MapIs.is_map (h : MapIs P w k b n D) : ∃ es c, w.heap[b]? = some (.map es c) := by
  obtain ⟨es, c, hb, _⟩ := h.own; exact ⟨es, c, hb⟩
theorem MapIs.kept {row : Option Nat} (h : MapIs P w k b n D) (hg : w.grownBy w' row) (hne : some b ≠ row) : MapIs P w' k b n D := ⟨h.own.kept hg hne, h.tidy⟩
theorem MapIs.below {B : Nat} (h : MapIs P w k b n D) (hb : Below B w w') (hB : b < B) : MapIs P w' k b n D := by
  obtain ⟨es, c, h1, h2⟩ := h.own
  exact ⟨⟨es, c, (hb.block b hB).trans h1, h2⟩, h.tidy⟩
theorem MapIs.alloc (h : MapIs P w k b n D) (o : Obj) : MapIs P (w.alloc o) k b n D := ⟨h.own.alloc o, h.tidy⟩
theorem MapIs.drew (h : MapIs P w k b n D) : MapIs P w.drew k b n D := ⟨h.own.drew, h.tidy⟩
theorem MapIs.drewN (h : MapIs P w k b n D) (q : Nat) : MapIs P (w.drewN q) k b n D := ⟨h.own, h.tidy⟩
/-- a map's block has no cells -/
theorem MapIs.no_cell (h : MapIs P w k b n D) (p : Addr) (hp : p.block = b) : w.cell? p = none := by
  obtain ⟨es, c, hb⟩ := h.is_map
  obtain ⟨pb, po, ps⟩ := p
  simp only at hp
  subst hp
  simp [World.cell?, hb]
/-- where only a map has turned all cells are as they were -/
theorem MapIs.cells {n' : Nat} {D' : DataW Value} (h : MapIs P w k b n D) (h' : MapIs P w' k b n' D') (hg : w.grownBy w' (some b)) (p : Addr) (hp : p.block < w.heap.size) : w'.cell? p = w.cell? p := by
  by_cases e : p.block = b
  · rw [h.no_cell p e, h'.no_cell p e]
  · exact World.cell?_of_block (hg.block p.block hp (fun h => e (by injection h with h)))
theorem MapIs.ne_blk {g : Nat} {t : TypeId} {cs : Array Value} (h : MapIs P w k b n D) (hg : Blk w g t cs) : b ≠ g := by
  rintro rfl
  obtain ⟨es, c, hb⟩ := h.is_map
  unfold Blk at hg
  rw [hb] at hg
  cases hg
theorem MapIs.ne_own {base : Nat} {e : TypeId} {size m : Nat} {v : Value} {xs : List Value} (h : MapIs P w k b n D) (ho : w.ownsRow base e size v m xs) : v.ownBlock = none ∨ v.ownBlock ≠ some b := by
  rcases ho.2 with ⟨rfl, _⟩ | ⟨g, cap, cur, rfl, _, hh, _⟩
  · exact .inl rfl
  · refine .inr fun e => ?_
    obtain ⟨es, c, hb⟩ := h.is_map
    have : g = b := by simpa [Value.ownBlock] using e
    subst this
    rw [hb] at hh; cases hh
theorem MapIs.made (w : World) (P : Program) (k : TypeId) : MapIs P (w.alloc (.map #[] 0)) k w.heap.size 0 (.map []) := ⟨World.ownsMap_made w P k heldR, tidy_empty⟩
end
theorem below_of_grown {w w' : World} {base b : Nat} (hg : w.grownBy w' (some b)) (hB : base ≤ w.heap.size) (hb : base ≤ b) : Below base w w' :=
  (Below.refl base w).grown hg hB (fun k e => by injection e with e; omega)

theorem own_map_below {P : Program} {w w' : World} {B b n : Nat} {k : TypeId} {D : DataW Value} (h : w.ownsMap P k heldR b n D) (hb : Below B w w') (hB : b < B) : w'.ownsMap P k heldR b n D := by
  obtain ⟨es, cl, h1, h2⟩ := h
  exact ⟨es, cl, (hb.block b hB).trans h1, h2⟩
/-- m[k] = v inside a region that draws -/
theorem step_mapUpdate_own {H : Type} {P : Program} (w : World) {ops : Array Oper} {o : Oper} {a : Act} {K : Act → World → Prop} {Q : Exit → Act → World → Prop} {E : Prop}
    (hgd : o.guard = none) (m x v : Operand) (t : TypeId) (hop : o.op = Op.mapUpdate t m x v)
    (k e : TypeId) (Kd : Keyed P k) (ht : P.underlying t = some (.map k e)) (R : Value → Option (DataW H × List MemPlace)) (b n : Nat) (D : DataW H)
    (hm : a.eval m = .map (some b)) (hown : w.ownsMap P k R b n D) (hn : n < maxLen) (key val : Value) (kl : Lit) (hx : a.eval x = key) (hv : a.eval v = val) (hkey : keyOf P k key = some kl)
    (d : DataW H) (ps : List MemPlace) (hval : R val = some (d, ps))
    (hK : ∀ w', w'.ownsMap P k R b (n + 1) (D.put kl d) → w.grownBy w' (some b) → K (a.put o.dst undef) w') :
    if Region.wanted o (yielded ops a.tmps) = true then Oper.wp P o a w K Q else E := by
  have hw : Region.wanted o (yielded ops a.tmps) = true := by simp [Region.wanted, hgd]
  rw [if_pos hw]
  obtain ⟨w', hrun, r1, r2⟩ := hown.update Kd ht hn hkey hval
  unfold Oper.wp
  simp [execOp, hop, hm, hx, hv, hrun, Result.andThen]
  exact hK w' r1 r2
end Go.Proofs.Ytopncifebldklaa
