/- GroveBounds: the walk. Conditions: two groves and a row that read as data. -/
import Derived.Test.YtliacpdbeghmlaaGroveTwice
namespace Go.Proofs.Ytliacpdbeghmlaa
set_option linter.unusedVariables false
set_option linter.unusedSimpArgs false
open Go.RowKit

theorem pSum_mono {α : Type} (a b : α → Int) (ts : List α) : ∀ (ws : List Int), (∀ t ∈ ts, a t ≤ b t) → (∀ x ∈ ws, 0 ≤ x) → pSum ((ts.map a).zip ws) ≤ pSum ((ts.map b).zip ws) := by
  induction ts with
  | nil => intro ws _ _; simp
  | cons t r ih =>
    intro ws h hw
    cases ws with
    | nil => simp
    | cons w ws =>
      have h1 := ih ws (fun t ht => h t (List.mem_cons_of_mem _ ht)) (fun x hx => hw x (List.mem_cons_of_mem _ hx))
      have h2 : a t * w ≤ b t * w := Int.mul_le_mul_of_nonneg_right (h t (List.mem_cons_self ..)) (hw w (List.mem_cons_self ..))
      unfold pSum at h1 ⊢
      simp only [List.map_cons, List.zip_cons_cons, List.sum_cons]
      omega
theorem pAll_same {α : Type} (a b : α → Int) (ts : List α) : ∀ (ws : List Int), pAll ((ts.map a).zip ws) = pAll ((ts.map b).zip ws) := by
  induction ts with
  | nil => intro ws; simp
  | cons t r ih =>
    intro ws
    cases ws with
    | nil => simp
    | cons w ws =>
      have h1 := ih ws
      unfold pAll at h1 ⊢
      simp only [List.map_cons, List.zip_cons_cons, List.sum_cons]
      omega
theorem tog_mono {α : Type} {a b : α → Int} {ts : List α} {ws : List Int} {way : Int} (h : ∀ t ∈ ts, a t ≤ b t) (hw : ∀ x ∈ ws, 1 ≤ x ∧ x ≤ 1000) (hl : ws.length = ts.length) (hp : 0 < ts.length) (h3 : way = 1 ∨ way = 2) : togV way ws (ts.map a) ≤ togV way ws (ts.map b) := by
  have h1 := pSum_mono a b ts ws h (fun x hx => by have := hw x hx; omega)
  unfold togV
  rcases h3 with rfl | rfl
  · rw [if_pos rfl, if_pos rfl]; exact h1
  · rw [if_neg (by decide), if_pos rfl, if_neg (by decide), if_pos rfl, pAll_same a b]
    have hA := (pAll_in (ps := (ts.map b).zip ws) (fun p hp => hw _ (List.of_mem_zip (a := p.1) (b := p.2) hp).2)).1
    rw [List.length_zip, List.length_map, hl, Nat.min_self] at hA
    exact Int.ediv_le_ediv (by omega) h1
theorem zip_fst {l : List Int} {ws : List Int} (h : l.length = ws.length) : (l.zip ws).map (·.1) = l := List.map_fst_zip (by omega)
theorem vote_in {l ws : List Int} (h : l.length = ws.length) (hn : l ≠ []) : voteV (l.zip ws) ∈ l := by
  have h0 : l.zip ws ≠ [] := fun e => by
    have := congrArg List.length e
    rw [List.length_zip, h, Nat.min_self] at this
    have : l.length = 0 := by rw [h]; simpa using this
    exact hn (List.eq_nil_of_length_eq_zero this)
  obtain ⟨b, hb⟩ := vote_exists h0
  rw [voteV_eq hb]
  have := hb.mem
  rwa [zip_fst h] at this
theorem val_leafVals {t : List Nd} {fe : Int} {r : List Int} (h : Right t fe) : valAt t (leafOf t r) ∈ leafVals t := by
  obtain ⟨n, hn, hf, _⟩ := leaf_in (r := r) h
  have : valAt t (leafOf t r) = n.v := by simp [valAt, hn]
  rw [this]
  exact List.mem_map.2 ⟨n, List.mem_filter.2 ⟨List.mem_of_getElem? hn, by simpa using hf⟩, rfl⟩
theorem way_cases {g : Gv} (h : GRight g) : (g.way = 1 ∨ g.way = 2) ∨ g.way = 3 := by have := h.way1; have := h.way3; omega
/-- what comes is between -/
theorem eval_between {g : Gv} {r : List Int} (h : standE g r = 0) : (boundsV g).1 ≤ gevalV g r ∧ gevalV g r ≤ (boundsV g).2 := by
  obtain ⟨hG, _, _⟩ := standE_0 h
  have hlo : ∀ t ∈ g.ts, Lib.minOf (leafVals t.l) ≤ valAt t.l (leafOf t.l r) := fun t ht => by
    have hR := right_of (hG.trees t ht)
    exact (minOf_spec (leafVals_in hR).1).2 _ (val_leafVals hR)
  have hhi : ∀ t ∈ g.ts, valAt t.l (leafOf t.l r) ≤ Lib.maxOf (leafVals t.l) := fun t ht => by
    have hR := right_of (hG.trees t ht)
    exact (maxOf_spec (leafVals_in hR).1).2 _ (val_leafVals hR)
  unfold boundsV gevalV
  rw [if_pos hG.e0, if_pos h]
  unfold betwV
  rcases way_cases hG with hw | hw
  · rw [if_neg (by omega)]
    exact ⟨tog_mono hlo hG.weights hG.wlen hG.pos hw, tog_mono hhi hG.weights hG.wlen hG.pos hw⟩
  · rw [if_pos hw]
    have hl : (eachV g r).length = g.ws.length := by rw [eachV_len, hG.wlen]
    have hp := hG.pos
    have hv : togV g.way g.ws (eachV g r) ∈ eachV g r := by
      unfold togV
      rw [if_neg (by omega), if_neg (by omega)]
      exact vote_in hl (fun e => by rw [e] at hl; have := hG.wlen; simp at hl; omega)
    obtain ⟨t, ht, hte⟩ := List.mem_map.1 hv
    have h1 := hlo t ht
    have h2 := hhi t ht
    have n1 : (g.ts.map fun t => Lib.minOf (leafVals t.l)) ≠ [] := fun e => by have := congrArg List.length e; simp at this; rw [this] at hp; simp at hp
    have n2 : (g.ts.map fun t => Lib.maxOf (leafVals t.l)) ≠ [] := fun e => by have := congrArg List.length e; simp at this; rw [this] at hp; simp at hp
    have m1 := (minOf_spec n1).2 _ (List.mem_map.2 ⟨t, ht, rfl⟩)
    have m2 := (maxOf_spec n2).2 _ (List.mem_map.2 ⟨t, ht, rfl⟩)
    rw [← hte]
    dsimp only at h1 h2 m1 m2 ⊢
    omega
theorem eval_vote {g : Gv} {r : List Int} (h : standE g r = 0) (hw : g.way = 3) : gevalV g r ∈ eachV g r := by
  obtain ⟨hG, _, _⟩ := standE_0 h
  have hl : (eachV g r).length = g.ws.length := by rw [eachV_len, hG.wlen]
  have hp := hG.pos
  unfold gevalV togV
  rw [if_pos h, if_neg (by omega), if_neg (by omega)]
  exact vote_in hl (fun e => by rw [e] at hl; have := hG.wlen; simp at hl; omega)
theorem join_sum {g o j : Gv} {r : List Int} (h : standE g r = 0) (h0 : joinE g o = 0) (hj : JoinIs g o j) (hw : g.way = 1) : standE o r = 0 ∧ standE j r = 0 ∧ gevalV j r = gevalV g r + gevalV o r := by
  obtain ⟨hG, hr, hl⟩ := standE_0 h
  have hoe : o.e = 0 := by
    unfold joinE at h0
    rw [if_pos hG.e0] at h0
    by_cases e : o.e = 0
    · exact e
    · rw [if_neg e] at h0; exact absurd h0 e
  have hO := groveE_right hoe
  obtain ⟨hJ, hf, hjw, hfo, hwo⟩ := hG.join hO h0 hj
  have hso := hO.stand hr (by rw [← hfo]; exact hl)
  have hsj := hJ.stand hr (by rw [hf]; exact hl)
  refine ⟨hso, hsj, ?_⟩
  unfold JoinIs at hj
  rw [if_pos h0] at hj
  obtain ⟨h1, h2, h3, h4⟩ := hj
  unfold gevalV togV
  rw [if_pos hsj, if_pos h, if_pos hso, if_pos (by rw [h2]; exact hw), if_pos hw, if_pos (by rw [← hwo]; exact hw), h3, eachV_trees j, h4, List.map_append, ← eachV_trees, ← eachV_trees, List.zip_append (by rw [eachV_len, hG.wlen]), pSum_app]
theorem lit7 (b : Nat) : gevalV (litG b 2 [1, 3]) [] = 7 ∧ standE (litG b 2 [1, 3]) [] = 0 := by
  have hls : standE (litG b 2 [1, 3]) [] = 0 := (litG_right _ (by decide) (by decide) (by decide) (by decide) (by decide)).stand rfl rfl
  refine ⟨?_, hls⟩
  unfold gevalV
  rw [if_pos hls, litG_each]
  rfl

theorem gbox2 (w : World) (f way : Int) (Aw : Option Addr) (nw cw : Nat) (At : Option Addr) (nt ct : Nat) (f' way' : Int) (Aw' : Option Addr) (nw' cw' : Nat) (At' : Option Addr) (nt' ct' : Nat) : ∃ W, W = (w.alloc (.cells #[.int .i64 f, .int .i64 way, .slice Aw nw cw, .slice At nt ct] 72)).alloc (.cells #[.int .i64 f', .int .i64 way', .slice Aw' nw' cw', .slice At' nt' ct'] 72) ∧
    Blk W w.heap.size 72 #[.int .i64 f, .int .i64 way, .slice Aw nw cw, .slice At nt ct] ∧ Blk W (w.heap.size + 1) 72 #[.int .i64 f', .int .i64 way', .slice Aw' nw' cw', .slice At' nt' ct'] ∧ W.heap.size = w.heap.size + 1 + 1 ∧ Below w.heap.size w W := by
  refine ⟨_, rfl, (Blk.new _ _ _).alloc _, ?_, by simp, ((Below.refl _ _).alloc (Nat.le_refl _) _).alloc (by simp) _⟩
  have := Blk.new (w.alloc (.cells #[.int .i64 f, .int .i64 way, .slice Aw nw cw, .slice At nt ct] 72)) 72 #[.int .i64 f', .int .i64 way', .slice Aw' nw' cw', .slice At' nt' ct']
  rwa [World.size_alloc] at this

set_option maxRecDepth 100000 in
set_option maxHeartbeats 4000000 in
theorem groveBounds_walk (g o : Gv) (C : Option Addr) (k q : Nat) (r : List Int) (w : World) (hg : GReads w w.heap.size g) (ho : GReads w w.heap.size o) (hr : IReads w w.heap.size C k r) (hk : k ≤ maxLen) :
    Calls Try.prog 12 #[g.val, o.val, .slice C k q] w fun e w' => e = .returned (.bool true) ∧ Below w.heap.size w w' := by
  have cEv : Hid (∀ W, Below w.heap.size w W → Calls Try.prog 35 #[g.val, .slice C k q] W fun e w' => e = .returned (.tuple #[.int .i64 (gevalV g r), errV (standE g r)]) ∧ Below W.heap.size W w') := hide (fun W hB => geval_any g C k q r W ((hg.below hB).more hB.size) ((hr.below hB).more hB.size) hk)
  have cEo : Hid (∀ W, Below w.heap.size w W → Calls Try.prog 35 #[o.val, .slice C k q] W fun e w' => e = .returned (.tuple #[.int .i64 (gevalV o r), errV (standE o r)]) ∧ Below W.heap.size W w') := hide (fun W hB => geval_any o C k q r W ((ho.below hB).more hB.size) ((hr.below hB).more hB.size) hk)
  have cEa : Hid (∀ W, Below w.heap.size w W → Calls Try.prog 34 #[g.val, .slice C k q] W (EachPost g r W)) := hide (fun W hB => each_any g C k q r W ((hg.below hB).more hB.size) ((hr.below hB).more hB.size) hk)
  have cBo : Hid (∀ W, Below w.heap.size w W → Calls Try.prog 37 #[g.val] W fun e w' => e = .returned (.tuple #[.int .i64 (boundsV g).1, .int .i64 (boundsV g).2, errV g.e]) ∧ Below W.heap.size W w') := hide (fun W hB => bounds_any g W ((hg.below hB).more hB.size))
  have cJo : Hid (∀ W, Below w.heap.size w W → Calls Try.prog 36 #[g.val, o.val] W (JoinPost g o W)) := hide (fun W hB => join_any g o W ((hg.below hB).more hB.size) ((ho.below hB).more hB.size))
  have HS : Hid (standE g r = standE g r) := hide rfl
  have HGL := hide hg.ts.len
  obtain ⟨G, hGdef⟩ : ∃ G, G = g := ⟨_, rfl⟩
  obtain ⟨O, hOdef⟩ : ∃ O, O = o := ⟨_, rfl⟩
  have HGv : Hid (G.val = g.val) := hide (by rw [hGdef])
  rw [← hGdef] at cEv cEa cBo cJo HGL
  rw [← hOdef] at cEo cJo
  have HGD := hide hGdef
  have HOD := hide hOdef
  obtain ⟨f, way, Aw, nw, cw, ws, At, nt, ct, ts⟩ := g
  obtain ⟨f', way', Aw', nw', cw', ws', At', nt', ct', ts'⟩ := o
  have eG : G.val = .agg #[.int .i64 f, .int .i64 way, .slice Aw nw cw, .slice At nt ct] := by rw [hGdef]; rfl
  have eO : O.val = .agg #[.int .i64 f', .int .i64 way', .slice Aw' nw' cw', .slice At' nt' ct'] := by rw [hOdef]; rfl
  have eW : G.way = way := by rw [hGdef]
  have eT : G.ts.length = nt := by rw [hGdef]; exact hg.ts.len
  rw [eG] at cEv cEa cBo cJo
  rw [eO] at cEo cJo
  have EW := hide eW
  have ET := hide eT
  clear hg ho eG eO eW eT hGdef hOdef HGv HS HGL
  simp only [Gv.val]
  obtain ⟨W, hW, bg, bo, hWs, hb0⟩ := gbox2 w f way Aw nw cw At nt ct f' way' Aw' nw' cw' At' nt' ct'
  go_enter Try.func12, Try.ntmps12
  go_wp2_with fail
  rw [← hW]
  clear hW
  have hlr := litG_reads W 2 [1, 3] (by decide)
  obtain ⟨hl7, hls⟩ := lit7 W.heap.size
  have hB1 : Below w.heap.size w (((W.alloc (.cells #[.int .i64 (-1), .int .i64 0, .int .i64 0, .int .i64 0, .bool false, .int .i64 7] 57)).alloc (.cells #[.int .i64 1, .int .i64 3] 3)).alloc (.cells #[.slice (some ⟨W.heap.size, 0, none⟩) 1 1, .slice (some ⟨W.heap.size, 0, none⟩) 1 1] 53)) :=
    ((hb0.alloc (by omega) _).alloc (by simp; omega) _).alloc (by simp; omega) _
  have bg1 := ((bg.alloc (.cells #[.int .i64 (-1), .int .i64 0, .int .i64 0, .int .i64 0, .bool false, .int .i64 7] 57)).alloc (.cells #[.int .i64 1, .int .i64 3] 3)).alloc (.cells #[.slice (some ⟨W.heap.size, 0, none⟩) 1 1, .slice (some ⟨W.heap.size, 0, none⟩) 1 1] 53)
  have bo1 := ((bo.alloc (.cells #[.int .i64 (-1), .int .i64 0, .int .i64 0, .int .i64 0, .bool false, .int .i64 7] 57)).alloc (.cells #[.int .i64 1, .int .i64 3] 3)).alloc (.cells #[.slice (some ⟨W.heap.size, 0, none⟩) 1 1, .slice (some ⟨W.heap.size, 0, none⟩) 1 1] 53)
  have hlc := geval_any (litG W.heap.size 2 [1, 3]) none 0 0 [] _ (hlr.more (by rw [World.size_alloc, World.size_alloc, World.size_alloc]; exact Nat.le_refl _)) (IReads.nil_) (Nat.zero_le _)
  rw [hls, hl7, hWs, errV_0 rfl] at hlc
  rw [hWs] at hB1 bg1 bo1
  clear hlr hls hl7 bg bo hb0
  have HLC := hide hlc
  clear hlc
  refine (unhide HLC).mono ?_
  rintro e w1 ⟨rfl, hb1⟩
  have hB2 : Below w.heap.size w w1 := hB1.trans (Below.mono hb1 (by simp; omega))
  have hz2 : w.heap.size + 1 + 1 + 1 ≤ w1.heap.size := by have := hb1.size; simp at this; omega
  have bg2 : Blk w1 w.heap.size 72 #[.int .i64 f, .int .i64 way, .slice Aw nw cw, .slice At nt ct] := Blk.below bg1 hb1 (by simp; omega)
  have bo2 : Blk w1 (w.heap.size + 1) 72 #[.int .i64 f', .int .i64 way', .slice Aw' nw' cw', .slice At' nt' ct'] := Blk.below bo1 hb1 (by simp; omega)
  clear hb1 bg1 bo1 hB1 HLC hWs
  obtain ⟨x0, x1, x2, x3⟩ := bg2.cells4
  have hc1 := hide (unhide cEv w1 hB2)
  by_cases h0 : standE G r = 0
  case neg =>
    have hv := errV_1 h0
    clear h0
    go_wp2_with fail
    refine (unhide hc1).mono ?_
    rintro e w2 ⟨rfl, hb2⟩
    rw [hv]
    clear hv hc1
    go_wp2_with fail
    go_ret
    exact ⟨rfl, hB2.trans (hb2.mono hB2.size)⟩
  have hv := errV_0 h0
  have HV := hide hv
  have H0 := hide h0
  obtain ⟨hG, _, _⟩ := standE_0 h0
  have h12 : nt ≤ 12 := by have := hG.most; have := unhide ET; omega
  have hpos : 0 < nt := by have := hG.pos; have := unhide ET; omega
  obtain ⟨hlo, hhi⟩ := eval_between h0
  obtain ⟨V, hV⟩ : ∃ V, V = gevalV G r := ⟨_, rfl⟩
  obtain ⟨B1, hB1⟩ : ∃ B, B = (boundsV G).1 := ⟨_, rfl⟩
  obtain ⟨B2, hB2'⟩ : ∃ B, B = (boundsV G).2 := ⟨_, rfl⟩
  rw [← hV] at hlo hhi hc1
  rw [← hB1] at hlo cBo
  rw [← hB2'] at hhi cBo
  have HGE := hide hG.e0
  have HVV := hide hV
  clear h0 hG hV hB1 hB2'
  go_wp2_with fail
  refine (unhide hc1).mono ?_
  rintro e w2 ⟨rfl, hb2⟩
  rw [hv]
  have hB3 := hB2.trans (hb2.mono hB2.size)
  have bg3 := bg2.below hb2 (by omega)
  have bo3 := bo2.below hb2 (by omega)
  have hz3 : w.heap.size + 1 + 1 + 1 ≤ w2.heap.size := Nat.le_trans hz2 hb2.size
  clear hv hc1 x0 x1 x2 x3 hb2 hB2 bg2 bo2 hz2 cEv
  obtain ⟨x0, x1, x2, x3⟩ := bg3.cells4
  have hce := unhide cEa w2 hB3
  unfold EachPost at hce
  rw [unhide HV] at hce
  have HCE := hide hce
  clear hce cEa
  go_wp2_with fail
  refine (unhide HCE).mono ?_
  rintro e w3 ⟨v3, rfl, ho3, hb3⟩
  have hB4 := hB3.trans (hb3.mono hB3.size)
  have bg4 := bg3.below hb3 (by omega)
  have bo4 := bo3.below hb3 (by omega)
  have hz4 : w.heap.size + 1 + 1 + 1 ≤ w3.heap.size := Nat.le_trans hz3 hb3.size
  have hER : eachR G r = eachV G r := by unfold eachR; rw [if_pos (unhide H0)]
  rw [hER] at ho3
  obtain ⟨A3, d3, rfl, r3, _, _, _⟩ := ho3.slice_
  have hel : (eachV G r).length = nt := by rw [eachV_len]; exact unhide ET
  rw [hel] at r3 ⊢
  have HEL := hide hel
  have hcb := hide (unhide cBo w3 hB4)
  rw [unhide HGE, errV_0 rfl] at hcb
  clear hER hel x0 x1 x2 x3 bg3 bo3 hb3 hB3 hz3 ho3 HCE cBo
  obtain ⟨x0, x1, x2, x3⟩ := bg4.cells4
  go_wp2_with fail
  refine (unhide hcb).mono ?_
  rintro e w4 ⟨rfl, hb4⟩
  have hB5 := hB4.trans (hb4.mono hB4.size)
  have bg5 := bg4.below hb4 (by omega)
  have bo5 := bo4.below hb4 (by omega)
  have hz5 : w.heap.size + 1 + 1 + 1 ≤ w4.heap.size := Nat.le_trans hz4 hb4.size
  have r4 := (r3.below hb4).more hb4.size
  clear hcb x0 x1 x2 x3 bg4 bo4 hb4 hB4 hz4 r3
  obtain ⟨x0, x1, x2, x3⟩ := bg5.cells4
  have q1 : decide (V < B1) = false := decide_eq_false (by omega)
  have q2 : decide (B2 < V) = false := decide_eq_false (by omega)
  have q3 : ((nt : Int) != (nt : Int)) = false := by simp
  go_upto_if 85 with (fail)
  go_cut [] from 83 to 102 (fun wx => wx = w4)
  case first =>
    by_cases hw : way = 3
    case neg =>
      have e1 : (way == 3) = false := by simp [hw]
      clear hw
      go_wp2_with fail
      go_meet
      case rel => rfl
    have e1 : (way == 3) = true := by simp [hw]
    have hin := eval_vote (unhide H0) (by rw [unhide EW]; exact hw)
    rw [← unhide HVV] at hin
    have HIN := hide hin
    clear hw hin
    go_wp2_with fail
    go_loop [17, 18] (fun s i => ∃ j : Nat, j ≤ nt ∧ i = .int .i64 j ∧ s = .bool (decide (V ∈ (eachV G r).take j))) (fun _ i => nt - (Lib.intOf i).toNat)
    case atStart => exact ⟨0, Nat.zero_le _, rfl, by simp⟩
    case round =>
      obtain ⟨j, hj, rfl, rfl⟩ := hrel
      by_cases hlt : j < nt
      · obtain ⟨b5, o5, y, rfl, _, hy, hcy⟩ := r4.get hlt
        have HN : Hid (decide (V ∈ (eachV G r).take (j + 1)) = (decide (V ∈ (eachV G r).take j) || (y == V))) := hide (by
          rw [take_next hy]
          by_cases e : y = V
          · subst e; simp
          · have : V ≠ y := fun h => e h.symm
            simp [List.mem_append, e, this])
        obtain ⟨D, hD⟩ : ∃ D, D = decide (V ∈ (eachV G r).take j) := ⟨_, rfl⟩
        rw [← hD] at HN ⊢
        clear hy hD
        cases D
        · cases hyV : (y == V)
          · have HN2 : Hid (decide (V ∈ (eachV G r).take (j + 1)) = false) := hide (by rw [unhide HN, hyV]; rfl)
            go_wp2_with fail
            go_round
            case rel => exact ⟨j + 1, by omega, by go_num, by rw [unhide HN2]⟩
            case measure => simp [Lib.intOf]; omega
          · have HN2 : Hid (decide (V ∈ (eachV G r).take (j + 1)) = true) := hide (by rw [unhide HN, hyV]; rfl)
            go_wp2_with fail
            go_round
            case rel => exact ⟨j + 1, by omega, by go_num, by rw [unhide HN2]⟩
            case measure => simp [Lib.intOf]; omega
        · have HN2 : Hid (decide (V ∈ (eachV G r).take (j + 1)) = true) := hide (by rw [unhide HN]; rfl)
          go_wp2_with fail
          go_round
          case rel => exact ⟨j + 1, by omega, by go_num, by rw [unhide HN2]⟩
          case measure => simp [Lib.intOf]; omega
      · obtain rfl : j = nt := by omega
        have hall : decide (V ∈ (eachV G r).take j) = true := by
          rw [List.take_of_length_le (by rw [unhide HEL]; exact Nat.le_refl _)]
          exact decide_eq_true (unhide HIN)
        rw [hall]
        clear hall
        go_wp2_with fail
        go_meet
        case rel => rfl
  case rest =>
    subst hcut
    clear r4
    have hcj := unhide cJo wc hB5
    unfold JoinPost at hcj
    have HCJ := hide hcj
    clear hcj cJo
    obtain ⟨y0, y1, y2, y3⟩ := bo5.cells4
    by_cases h5 : joinE G O = 0
    case neg =>
      have hv5 := errV_1 h5
      clear h5
      go_wp2_with fail
      refine (unhide HCJ).mono ?_
      rintro e w6 ⟨g6, rfl, _, _, hb6⟩
      rw [hv5]
      clear HCJ hv5
      obtain ⟨f4, way4, Aw4, nw4, cw4, ws4, At4, nt4, ct4, ts4⟩ := g6
      simp only [Gv.val]
      have hB6 := hB5.trans (hb6.mono hB5.size)
      go_wp2_with fail
      go_ret
      exact ⟨rfl, hB6.alloc hB6.size _⟩
    have hv5 := errV_0 h5
    go_wp2_with fail
    refine (unhide HCJ).mono ?_
    rintro e w6 ⟨g6, rfl, hg6, hj6, hb6⟩
    rw [hv5]
    clear hv5 HCJ
    have hB6 := hB5.trans (hb6.mono hB5.size)
    have hz6 := hb6.size
    have hB7 : Below w.heap.size w (w6.alloc (.cells g6.cells 72)) := hB6.alloc hB6.size _
    have hW7 : Below w6.heap.size w6 (w6.alloc (.cells g6.cells 72)) := (Below.refl _ _).alloc (Nat.le_refl _) _
    have hs7 : (w6.alloc (.cells g6.cells 72)).heap.size = w6.heap.size + 1 := by simp
    have bg7 := (bg5.below hb6 (by omega)).alloc (.cells g6.cells 72)
    have bo7 := (bo5.below hb6 (by omega)).alloc (.cells g6.cells 72)
    have bj7 : Blk (w6.alloc (.cells g6.cells 72)) w6.heap.size 72 g6.cells := Blk.new _ _ _
    have hg7 := (hg6.below hW7).more (Nat.le_of_lt (by omega : w6.heap.size < (w6.alloc (.cells g6.cells 72)).heap.size))
    clear x0 x1 x2 x3 y0 y1 y2 y3 bg5 bo5
    obtain ⟨x0, x1, x2, x3⟩ := bg7.cells4
    obtain ⟨y0, y1, y2, y3⟩ := bo7.cells4
    by_cases hw : way = 1
    case neg =>
      have e1 : (way != 1) = true := by simp [hw]
      obtain ⟨f4, way4, Aw4, nw4, cw4, ws4, At4, nt4, ct4, ts4⟩ := g6
      simp only [Gv.val, Gv.cells] at x1 ⊢
      clear hw hg6 hj6 hg7 bj7 bg7 bo7 x0 x2 x3 y0 y1 y2 y3
      go_wp2_with fail
      go_ret
      exact ⟨rfl, hB7⟩
    have e1 : (way != 1) = false := by simp [hw]
    obtain ⟨hso, hsj, hval⟩ := join_sum (unhide H0) h5 hj6 (by rw [unhide EW]; exact hw)
    have s1 := geval_sum (unhide H0) (by rw [unhide EW]; exact hw)
    have hway : O.way = 1 ∧ g6.way = 1 := by
      obtain ⟨hO, _, _⟩ := standE_0 hso
      obtain ⟨_, _, hjw, _, hwo⟩ := (standE_0 (unhide H0)).1.join hO h5 hj6
      have hGw : G.way = 1 := by rw [unhide EW]; exact hw
      exact ⟨by rw [← hwo]; exact hGw, by rw [hjw]; exact hGw⟩
    have s2 := geval_sum hso hway.1
    have hco := unhide cEo _ hB7
    rw [hso, errV_0 rfl] at hco
    obtain ⟨X, hX⟩ : ∃ X, X = gevalV O r := ⟨_, rfl⟩
    rw [← hX] at hco hval s2
    rw [← unhide HVV] at hval s1
    obtain ⟨s11, s12⟩ := s1
    obtain ⟨s21, s22⟩ := s2
    have hcj2 : Hid (∀ W, Below (w6.alloc (.cells g6.cells 72)).heap.size (w6.alloc (.cells g6.cells 72)) W → Calls Try.prog 35 #[g6.val, .slice C k q] W fun e w' => e = .returned (.tuple #[.int .i64 (V + X), .nilIface]) ∧ Below W.heap.size W w') := hide (fun W hB => by
      have := geval_any g6 C k q r W ((hg7.below hB).more hB.size) ((hr.below (hB7.trans (hB.mono hB7.size))).more (Nat.le_trans hB7.size hB.size)) hk
      rw [hval, hsj, errV_0 rfl] at this
      exact this)
    have HCO := hide hco
    clear hco hval hX hso hsj hj6 hg6 hg7 hw h5 hway
    obtain ⟨f4, way4, Aw4, nw4, cw4, ws4, At4, nt4, ct4, ts4⟩ := g6
    simp only [Gv.val, Gv.cells] at HCO hcj2 x0 x1 x2 x3 y0 y1 y2 y3 bj7 bg7 bo7 hB7 hs7 ⊢
    go_wp2_with fail
    refine (unhide HCO).mono ?_
    rintro e w8 ⟨rfl, hb8⟩
    have bj8 := bj7.below hb8 (by omega)
    have hB8 := hB7.trans (hb8.mono hB7.size)
    have hc8 := hide (unhide hcj2 w8 hb8)
    clear HCO hcj2 x0 x1 x2 x3 y0 y1 y2 y3 bg7 bo7 bj7 hB7 hs7
    obtain ⟨x0, x1, x2, x3⟩ := bj8.cells4
    go_wp2_with fail
    refine (unhide hc8).mono ?_
    rintro e w9 ⟨rfl, hb9⟩
    have e9 : (V + X == V + X) = true := by simp
    clear hc8
    go_wp2_with fail
    go_ret
    exact ⟨rfl, hB8.trans (hb9.mono hB8.size)⟩
end Go.Proofs.Ytliacpdbeghmlaa
