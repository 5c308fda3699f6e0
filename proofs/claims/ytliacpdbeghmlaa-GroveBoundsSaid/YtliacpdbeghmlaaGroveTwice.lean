/- GroveTwice: the walk. Conditions: a grove and a row that read as data. -/
import Derived.Test.YtliacpdbeghmlaaGroveJoin
namespace Go.Proofs.Ytliacpdbeghmlaa
set_option linter.unusedVariables false
set_option linter.unusedSimpArgs false
open Go.RowKit

theorem eachV_trees (g : Gv) (r : List Int) : eachV g r = g.trees.map fun t => valAt t (leafOf t r) := by simp [eachV, Gv.trees]
theorem GRight.join {a b j : Gv} (ha : GRight a) (hb : GRight b) (h0 : joinE a b = 0) (hj : JoinIs a b j) : GRight j ∧ j.f = a.f ∧ j.way = a.way ∧ a.f = b.f ∧ a.way = b.way := by
  unfold JoinIs at hj
  rw [if_pos h0] at hj
  obtain ⟨h1, h2, h3, h4⟩ := hj
  unfold joinE at h0
  rw [if_pos ha.e0, if_pos hb.e0] at h0
  by_cases hf : a.f = b.f
  case neg => rw [if_neg hf] at h0; cases h0
  rw [if_pos hf] at h0
  by_cases hw : a.way = b.way
  case neg => rw [if_neg hw] at h0; cases h0
  rw [if_pos hw] at h0
  by_cases hn : 12 < a.ts.length + b.ts.length
  case pos => rw [if_pos hn] at h0; cases h0
  have hl : j.ts.length = a.ts.length + b.ts.length := by rw [← Gv.trees_len, h4, List.length_append, Gv.trees_len, Gv.trees_len]
  refine ⟨⟨by rw [h1]; exact ha.f0, by rw [h1]; exact ha.f8, by rw [h2]; exact ha.way1, by rw [h2]; exact ha.way3, by have := ha.pos; omega, by omega, ?_, ?_, ?_⟩, h1, h2, hf, hw⟩
  · rw [h3, List.length_append, ha.wlen, hb.wlen, hl]
  · intro x hx
    rw [h3] at hx
    rcases List.mem_append.1 hx with hx | hx
    · exact ha.weights x hx
    · exact hb.weights x hx
  · intro t ht
    have : t.l ∈ j.trees := List.mem_map.2 ⟨t, ht, rfl⟩
    rw [h4] at this
    rw [h1]
    rcases List.mem_append.1 this with h | h
    · obtain ⟨t', ht', e⟩ := List.mem_map.1 h
      rw [← e]; exact ha.trees t' ht'
    · obtain ⟨t', ht', e⟩ := List.mem_map.1 h
      rw [← e, hf]; exact hb.trees t' ht'
theorem GRight.stand {g : Gv} {r : List Int} (h : GRight g) (hr : rowE r = 0) (hl : (r.length : Int) = g.f) : standE g r = 0 := by
  unfold standE
  rw [if_pos h.e0, if_pos hr, if_pos hl]
theorem vote_exists {ps : Ps} (h : ps ≠ []) : ∃ b, IsVote ps b := by
  have h1 : (ps.map (·.1)).map (pVotes ps) ≠ [] := by simpa using h
  obtain ⟨hm, hall⟩ := maxOf_spec h1
  obtain ⟨x, hx, hxe⟩ := List.mem_map.1 hm
  have h2 : (ps.map (·.1)).filter (fun v => pVotes ps v == Lib.maxOf ((ps.map (·.1)).map (pVotes ps))) ≠ [] := by
    intro e
    have : x ∈ (ps.map (·.1)).filter (fun v => pVotes ps v == Lib.maxOf ((ps.map (·.1)).map (pVotes ps))) := List.mem_filter.2 ⟨hx, by simpa using hxe⟩
    rw [e] at this; cases this
  obtain ⟨hb, hmin⟩ := minOf_spec h2
  obtain ⟨hb1, hb2⟩ := List.mem_filter.1 hb
  have hb2' : pVotes ps (Lib.minOf ((ps.map (·.1)).filter (fun v => pVotes ps v == Lib.maxOf ((ps.map (·.1)).map (pVotes ps))))) = Lib.maxOf ((ps.map (·.1)).map (pVotes ps)) := by simpa using hb2
  refine ⟨_, hb1, fun v hv => ?_, fun v hv e => hmin v (List.mem_filter.2 ⟨hv, ?_⟩)⟩
  · rw [hb2']; exact hall _ (List.mem_map.2 ⟨v, hv, rfl⟩)
  · rw [e, hb2']; simp
theorem pVotes_app (ps qs : Ps) (v : Int) : pVotes (ps ++ qs) v = pVotes ps v + pVotes qs v := by simp [pVotes, List.filter_append, List.sum_append]
theorem pSum_app (ps qs : Ps) : pSum (ps ++ qs) = pSum ps + pSum qs := by simp [pSum, List.sum_append]
theorem pAll_app (ps qs : Ps) : pAll (ps ++ qs) = pAll ps + pAll qs := by simp [pAll, List.sum_append]
theorem vote_twice {ps : Ps} (h : ps ≠ []) : voteV (ps ++ ps) = voteV ps := by
  obtain ⟨b, hb⟩ := vote_exists h
  rw [voteV_eq hb]
  refine voteV_eq ⟨by simp [hb.mem], fun v hv => ?_, fun v hv e => ?_⟩
  · rw [List.map_append] at hv
    have := hb.most v (by rcases List.mem_append.1 hv with h | h <;> exact h)
    rw [pVotes_app, pVotes_app]; omega
  · rw [List.map_append] at hv
    rw [pVotes_app, pVotes_app] at e
    exact hb.least v (by rcases List.mem_append.1 hv with h | h <;> exact h) (by omega)
theorem tog_twice {way : Int} {ws l : List Int} (hl : l.length = ws.length) (hn : l ≠ []) (hw : ∀ x ∈ ws, 1 ≤ x ∧ x ≤ 1000) : togV way (ws ++ ws) (l ++ l) = if way = 1 then 2 * togV way ws l else togV way ws l := by
  unfold togV
  rw [List.zip_append hl]
  by_cases h1 : way = 1
  · rw [if_pos h1, if_pos h1, if_pos h1, pSum_app]; omega
  · rw [if_neg h1, if_neg h1, if_neg h1]
    by_cases h2 : way = 2
    · rw [if_pos h2, if_pos h2, pSum_app, pAll_app]
      have e1 : pSum (l.zip ws) + pSum (l.zip ws) = 2 * pSum (l.zip ws) := by omega
      have e2 : pAll (l.zip ws) + pAll (l.zip ws) = 2 * pAll (l.zip ws) := by omega
      rw [e1, e2, Int.mul_ediv_mul_of_pos _ _ (by omega)]
    · rw [if_neg h2, if_neg h2]
      refine vote_twice fun e => ?_
      have := congrArg List.length e
      rw [List.length_zip, hl, Nat.min_self] at this
      have : l.length = 0 := by rw [hl]; simpa using this
      exact hn (List.eq_nil_of_length_eq_zero this)
theorem twice_val {g j : Gv} {r : List Int} (h : standE g r = 0) (h0 : joinE g g = 0) (hj : JoinIs g g j) : standE j r = 0 ∧ gevalV j r = if g.way = 1 then 2 * gevalV g r else gevalV g r := by
  obtain ⟨hG, hr, hl⟩ := standE_0 h
  obtain ⟨hJ, hf, hw, _, _⟩ := hG.join hG h0 hj
  have hs := hJ.stand hr (by rw [hf]; exact hl)
  refine ⟨hs, ?_⟩
  unfold JoinIs at hj
  rw [if_pos h0] at hj
  obtain ⟨h1, h2, h3, h4⟩ := hj
  unfold gevalV
  rw [if_pos hs, if_pos h, h2, h3, eachV_trees, h4, List.map_append, ← eachV_trees]
  have hlen : (eachV g r).length = g.ws.length := by rw [eachV_len, hG.wlen]
  refine tog_twice hlen (fun e => ?_) hG.weights
  rw [e] at hlen
  have := hG.pos
  have := hG.wlen
  simp at hlen
  omega
theorem geval_sum {g : Gv} {r : List Int} (h : standE g r = 0) (hw : g.way = 1) : -12000000000 ≤ gevalV g r ∧ gevalV g r ≤ 12000000000 := by
  obtain ⟨hG, _, _⟩ := standE_0 h
  have hl : (eachV g r).length = g.ws.length := by rw [eachV_len, hG.wlen]
  have := take_in (ps := (eachV g r).zip g.ws) (k := 12) (fun p hp => by
    have hp' := List.of_mem_zip (a := p.1) (b := p.2) hp
    exact ⟨eachV_in h _ hp'.1, hG.weights _ hp'.2⟩) (by rw [List.length_zip, hl, Nat.min_self, hG.wlen]; exact hG.most)
  rw [List.take_of_length_le (by rw [List.length_zip, hl, Nat.min_self, hG.wlen]; exact hG.most)] at this
  unfold gevalV togV
  rw [if_pos h, if_pos hw]
  exact this.1
def litLeaf (v : Int) : List Nd := [⟨-1, 0, 0, 0, false, v⟩]

def litG (b : Nat) (way : Int) (ws : List Int) : Gv := ⟨0, way, some ⟨b + 1, 0, none⟩, ws.length, ws.length, ws, some ⟨b + 1 + 1, 0, none⟩, ws.length, ws.length, List.replicate ws.length ⟨some ⟨b, 0, none⟩, 1, 1, litLeaf 7⟩⟩
theorem litG_reads (W : World) (way : Int) (ws : List Int) (hn : ws.length ≤ 12) :
    GReads (((W.alloc (.cells #[.int .i64 (-1), .int .i64 0, .int .i64 0, .int .i64 0, .bool false, .int .i64 7] 57)).alloc (.cells (ws.map (Value.int .i64)).toArray 3)).alloc (.cells (List.replicate ws.length (Value.slice (some ⟨W.heap.size, 0, none⟩) 1 1)).toArray 53))
      (W.heap.size + 1 + 1 + 1) (litG W.heap.size way ws) := by
  have h1 := Reads.new_ W 6 1 [.int .i64 (-1), .int .i64 0, .int .i64 0, .int .i64 0, .bool false, .int .i64 7] 57 rfl
  have h2 := Reads.new_ (W.alloc (.cells #[.int .i64 (-1), .int .i64 0, .int .i64 0, .int .i64 0, .bool false, .int .i64 7] 57)) 1 ws.length (ws.map (Value.int .i64)) 3 (by simp)
  rw [World.size_alloc] at h2
  have h3 := Reads.new_ ((W.alloc (.cells #[.int .i64 (-1), .int .i64 0, .int .i64 0, .int .i64 0, .bool false, .int .i64 7] 57)).alloc (.cells (ws.map (Value.int .i64)).toArray 3)) 1 ws.length (List.replicate ws.length (Value.slice (some ⟨W.heap.size, 0, none⟩) 1 1)) 53 (by simp)
  rw [World.size_alloc, World.size_alloc] at h3
  refine ⟨(Reads.alloc h2 (by simp) _).more (by omega), ⟨?_, fun r hr => ?_⟩, by unfold maxLen; show ws.length ≤ _; omega, by unfold maxLen; show ws.length ≤ _; omega, (fun e => by cases e), (fun e => by cases e)⟩
  · have e : (litG W.heap.size way ws).ts.map Tr.val = List.replicate ws.length (Value.slice (some ⟨W.heap.size, 0, none⟩) 1 1) := by simp [litG, Tr.val]
    rw [e]
    exact h3
  · obtain ⟨_, rfl⟩ := List.mem_replicate.1 hr
    refine ⟨?_, by unfold maxLen; show 1 ≤ _; decide, fun e => by cases e⟩
    exact Reads.more (Reads.alloc (Reads.alloc h1 (by simp) _) (by simp) _) (by omega)
theorem litG_right (b : Nat) {way : Int} {ws : List Int} (h1 : 1 ≤ way) (h3 : way ≤ 3) (hp : 0 < ws.length) (hn : ws.length ≤ 12) (hw : ∀ x ∈ ws, 1 ≤ x ∧ x ≤ 1000) : GRight (litG b way ws) :=
  ⟨by show (0 : Int) ≤ 0; omega, by show (0 : Int) ≤ 8; omega, h1, h3, by simpa [litG] using hp, by simpa [litG] using hn, by simp [litG], hw, fun t ht => by
    obtain ⟨_, rfl⟩ := List.mem_replicate.1 ht
    show treeE (litLeaf 7) 0 = 0
    decide⟩
theorem litG_each (b : Nat) (way : Int) (ws : List Int) : eachV (litG b way ws) [] = List.replicate ws.length 7 := by
  unfold eachV litG
  rw [List.map_replicate]
  rfl

set_option maxRecDepth 100000 in
set_option maxHeartbeats 4000000 in
theorem groveTwice_walk (g : Gv) (C : Option Addr) (k q : Nat) (r : List Int) (w : World) (hg : GReads w w.heap.size g) (hr : IReads w w.heap.size C k r) (hk : k ≤ maxLen) :
    Calls Try.prog 11 #[g.val, .slice C k q] w fun e w' => e = .returned (.bool true) ∧ Below w.heap.size w w' := by
  obtain ⟨W, hW, bx, hWs, hb0⟩ := gbox w g.f g.way g.Aw g.nw g.cw g.At g.nt g.ct
  have HG := hide hg
  obtain ⟨f, way, Aw, nw, cw, ws, At, nt, ct, ts⟩ := g
  simp only [Gv.val]
  dsimp only at hW bx
  go_enter Try.func11, Try.ntmps11
  go_wp2_with fail
  rw [← hW]
  clear hW
  have hlr := litG_reads W 3 [1] (by decide)
  have hls : standE (litG W.heap.size 3 [1]) [] = 0 := (litG_right _ (by decide) (by decide) (by decide) (by decide) (by decide)).stand rfl rfl
  have hle : eachR (litG W.heap.size 3 [1]) [] = [7] := by unfold eachR; rw [if_pos hls, litG_each]; rfl
  have hB1 : Below w.heap.size w (((W.alloc (.cells #[.int .i64 (-1), .int .i64 0, .int .i64 0, .int .i64 0, .bool false, .int .i64 7] 57)).alloc (.cells #[.int .i64 1] 3)).alloc (.cells #[.slice (some ⟨W.heap.size, 0, none⟩) 1 1] 53)) :=
    ((hb0.alloc (by omega) _).alloc (by simp; omega) _).alloc (by simp; omega) _
  have bx1 := ((bx.alloc (.cells #[.int .i64 (-1), .int .i64 0, .int .i64 0, .int .i64 0, .bool false, .int .i64 7] 57)).alloc (.cells #[.int .i64 1] 3)).alloc (.cells #[.slice (some ⟨W.heap.size, 0, none⟩) 1 1] 53)
  have hz1 : (((W.alloc (.cells #[.int .i64 (-1), .int .i64 0, .int .i64 0, .int .i64 0, .bool false, .int .i64 7] 57)).alloc (.cells #[.int .i64 1] 3)).alloc (.cells #[.slice (some ⟨W.heap.size, 0, none⟩) 1 1] 53)).heap.size = w.heap.size + 1 + 1 + 1 + 1 := by simp [hWs]
  have hlc := each_any (litG W.heap.size 3 [1]) none 0 0 [] _ (hlr.more (by rw [World.size_alloc, World.size_alloc, World.size_alloc]; exact Nat.le_refl _)) (IReads.nil_) (Nat.zero_le _)
  unfold EachPost at hlc
  rw [hls, hle, hWs] at hlc
  rw [hWs] at hB1 bx1 hz1
  clear hlr hls hle bx hb0
  have HLC := hide hlc
  clear hlc
  refine (unhide HLC).mono ?_
  rintro e w1 ⟨v1, rfl, ho1, hb1⟩
  have hB2 : Below w.heap.size w w1 := hB1.trans (Below.mono hb1 (by simp; omega))
  have hz2 : w.heap.size + 1 + 1 + 1 + 1 ≤ w1.heap.size := by have := hb1.size; simp at this; omega
  have bx2 : Blk w1 w.heap.size 72 #[.int .i64 f, .int .i64 way, .slice Aw nw cw, .slice At nt ct] := Blk.below bx1 hb1 (by simp; omega)
  obtain ⟨A1, c1, rfl, r1, _, _, _⟩ := ho1.slice_
  obtain ⟨bb, oo, x, rfl, _, hx, hcx⟩ := r1.get (k := 0) (by decide)
  simp at hx hcx
  subst hx
  rw [errV_0 rfl]
  clear ho1 r1 hb1 bx1 hB1 hz1 HLC
  obtain ⟨x0, x1, x2, x3⟩ := bx2.cells4
  have hcg := hide (geval_any ⟨f, way, Aw, nw, cw, ws, At, nt, ct, ts⟩ C k q r w1 (((unhide HG).below hB2).more hB2.size) ((hr.below hB2).more hB2.size) hk)
  simp only [Gv.val] at hcg
  simp only [List.length_singleton]
  by_cases h0 : standE ⟨f, way, Aw, nw, cw, ws, At, nt, ct, ts⟩ r = 0
  case neg =>
    have hv := errV_1 h0
    have HV := hide hv
    clear h0
    go_wp2_with fail
    refine (unhide hcg).mono ?_
    rintro e w2 ⟨rfl, hb2⟩
    rw [hv]
    clear hv hcg
    go_wp2_with fail
    go_ret
    exact ⟨rfl, hB2.trans (hb2.mono hB2.size)⟩
  have hv := errV_0 h0
  have HV := hide hv
  have H0 := hide h0
  go_wp2_with fail
  refine (unhide hcg).mono ?_
  rintro e w2 ⟨rfl, hb2⟩
  rw [hv]
  obtain ⟨V, hV⟩ : ∃ V, V = gevalV ⟨f, way, Aw, nw, cw, ws, At, nt, ct, ts⟩ r := ⟨_, rfl⟩
  rw [← hV]
  have HVV := hide hV
  have hB3 := hB2.trans (hb2.mono hB2.size)
  have bx3 := bx2.below hb2 (by omega)
  have hz3 : w.heap.size + 1 + 1 + 1 + 1 ≤ w2.heap.size := Nat.le_trans hz2 hb2.size
  clear hv h0 hcg x0 x1 x2 x3 hb2 hB2 bx2 hz2 hcx hV
  obtain ⟨x0, x1, x2, x3⟩ := bx3.cells4
  have hce := each_any ⟨f, way, Aw, nw, cw, ws, At, nt, ct, ts⟩ C k q r w2 (((unhide HG).below hB3).more hB3.size) ((hr.below hB3).more hB3.size) hk
  unfold EachPost at hce
  rw [unhide HV] at hce
  simp only [Gv.val] at hce
  have HCE := hide hce
  clear hce
  go_wp2_with fail
  refine (unhide HCE).mono ?_
  rintro e w3 ⟨v3, rfl, ho3, hb3⟩
  have hB4 := hB3.trans (hb3.mono hB3.size)
  have bx4 := bx3.below hb3 (by omega)
  have hz4 : w.heap.size + 1 + 1 + 1 + 1 ≤ w3.heap.size := Nat.le_trans hz3 hb3.size
  obtain ⟨hG, hrow, hlen⟩ := standE_0 (unhide H0)
  have hlt : ts.length = nt := (unhide HG).ts.len
  have hER : eachR ⟨f, way, Aw, nw, cw, ws, At, nt, ct, ts⟩ r = eachV ⟨f, way, Aw, nw, cw, ws, At, nt, ct, ts⟩ r := by unfold eachR; rw [if_pos (unhide H0)]
  rw [hER] at ho3
  obtain ⟨A3, d3, rfl, r3, _, _, _⟩ := ho3.slice_
  have hel : (eachV ⟨f, way, Aw, nw, cw, ws, At, nt, ct, ts⟩ r).length = nt := by rw [eachV_len]; exact hlt
  rw [hel] at r3 ⊢
  have h12 : nt ≤ 12 := by have := hG.most; dsimp only at this; omega
  have hpos : 0 < nt := by have := hG.pos; dsimp only at this; omega
  have HGR := hide hG
  have HROW := hide (And.intro hrow hlen)
  have HLT := hide hlt
  clear hER hel hG hrow hlen hlt x0 x1 x2 x3 bx3 hb3 hB3 hz3 ho3 HCE
  obtain ⟨x0, x1, x2, x3⟩ := bx4.cells4
  have e0 : ((nt : Int) != (nt : Int)) = false := by simp
  go_wp2_with fail
  go_loopw [12] (fun i wr => ∃ j : Nat, j ≤ nt ∧ i = .int .i64 j ∧ Below w3.heap.size w3 wr) (fun i _ => nt - (Lib.intOf i).toNat)
  case atStart => exact ⟨0, Nat.zero_le _, rfl, Below.refl _ _⟩
  case round =>
    obtain ⟨j, hj, rfl, hbel⟩ := hrel
    have hsz := hbel.size
    have hBr := hB4.trans (hbel.mono hB4.size)
    have hk3 : wr.cell? ⟨w.heap.size, 3, none⟩ = some (.slice At nt ct) := (hbel.cell (p := ⟨w.heap.size, 3, none⟩) (by show w.heap.size < _; omega)).trans x3
    by_cases hlt : j < nt
    · obtain ⟨b, o, t, rfl, _, hx, hcx, hok⟩ := (((unhide HG).ts).below hBr).get hlt
      have hm := List.mem_of_getElem? hx
      have htr : treeE t.l r.length = 0 := by have := (unhide HGR).trees t hm; rw [(unhide HROW).2]; exact this
      have hre : readyE t.l r = 0 := by unfold readyE; rw [if_pos (unhide HROW).1, htr]
      have hev : evalV t.l r = valAt t.l (leafOf t.l r) := by unfold evalV; rw [if_pos hre]
      obtain ⟨b5, o5, y, rfl, _, hy, hcy⟩ := (r3.below hbel).get hlt
      have hyv : y = valAt t.l (leafOf t.l r) := by
        have h2 : (eachV ⟨f, way, Aw, nw, cw, ws, some ⟨b, o, none⟩, nt, ct, ts⟩ r)[j]? = some (valAt t.l (leafOf t.l r)) := by unfold eachV; rw [List.getElem?_map, hx]; rfl
        rw [h2] at hy; injection hy with hy; exact hy.symm
      have hcon := eval_any t.A C t.n t.c k q t.l r wr (hok.reads.more hBr.size) ((hr.below hBr).more hBr.size) hok.len hk
      rw [hev, ← hyv, hre, errV_0 rfl] at hcon
      have HC := hide hcon
      obtain ⟨tA, tn, tc, tl⟩ := t
      dsimp only at hcx HC
      have e1 : (y != y) = false := by simp
      clear hcon hyv hev hre htr hm hx hy hok
      go_wp2_with fail
      refine (unhide HC).mono ?_
      rintro e w4 ⟨rfl, hb4⟩
      have hcy4 := (hb4.cell (p := ⟨b5, o5 + j, none⟩) (by dsimp only; omega)).trans hcy
      clear HC hcx hcy
      go_wp2_with fail
      go_roundw
      case rel => exact ⟨j + 1, by omega, by go_num, hbel.trans (hb4.mono hsz)⟩
      case measure => simp [Lib.intOf]; omega
    · obtain rfl : j = nt := by omega
      have hk1 : wr.cell? ⟨w.heap.size, 1, none⟩ = some (.int .i64 way) := (hbel.cell (p := ⟨w.heap.size, 1, none⟩) (by show w.heap.size < _; omega)).trans x1
      have hk0 : wr.cell? ⟨w.heap.size, 0, none⟩ = some (.int .i64 f) := (hbel.cell (p := ⟨w.heap.size, 0, none⟩) (by show w.heap.size < _; omega)).trans x0
      have hk2 : wr.cell? ⟨w.heap.size, 2, none⟩ = some (.slice Aw nw cw) := (hbel.cell (p := ⟨w.heap.size, 2, none⟩) (by show w.heap.size < _; omega)).trans x2
      have hgr := ((unhide HG).below hBr).more hBr.size
      have hjn := join_any ⟨f, way, Aw, nw, cw, ws, At, j, ct, ts⟩ ⟨f, way, Aw, nw, cw, ws, At, j, ct, ts⟩ wr hgr hgr
      unfold JoinPost at hjn
      have HJN := hide hjn
      clear hjn hgr r3
      by_cases h5 : joinE ⟨f, way, Aw, nw, cw, ws, At, j, ct, ts⟩ ⟨f, way, Aw, nw, cw, ws, At, j, ct, ts⟩ = 0
      case neg =>
        have hv5 := errV_1 h5
        have h24 : 12 < 2 * j := by
          rcases Nat.lt_or_ge 12 (2 * j) with h | h
          · exact h
          · refine absurd ?_ h5
            unfold joinE
            rw [if_pos (unhide HGR).e0, if_pos (unhide HGR).e0, if_pos rfl, if_pos rfl, if_neg]
            dsimp only
            rw [unhide HLT]; omega
        clear h5
        go_wp2_with fail
        refine (unhide HJN).mono ?_
        rintro e w4 ⟨g4, rfl, _, _, hb4⟩
        rw [hv5]
        clear HJN hv5
        obtain ⟨f4, way4, Aw4, nw4, cw4, ws4, At4, nt4, ct4, ts4⟩ := g4
        simp only [Gv.val]
        have hB5 := hBr.trans (hb4.mono hBr.size)
        have hk4 : w4.cell? ⟨w.heap.size, 3, none⟩ = some (.slice At j ct) := (hb4.cell (p := ⟨w.heap.size, 3, none⟩) (by show w.heap.size < _; omega)).trans hk3
        have hs4 := hb4.size
        have hk5 := cell_alloc hk4 (by show w.heap.size < _; omega)
        have d1 : decide ((12 : Int) < 2 * (j : Int)) = true := decide_eq_true (by omega)
        clear hk0 hk1 hk2 hk3 x0 x1 x2 x3
        go_wp2_with fail
        go_ret
        exact ⟨rfl, hB5.alloc hB5.size _⟩
      have hv5 := errV_0 h5
      have H5 := hide h5
      go_wp2_with fail
      refine (unhide HJN).mono ?_
      rintro e w4 ⟨g4, rfl, hg4, hj4, hb4⟩
      rw [hv5]
      clear HJN hv5
      have hB5 := hBr.trans (hb4.mono hBr.size)
      have hs4 := hb4.size
      have hB6 : Below w.heap.size w (w4.alloc (.cells g4.cells 72)) := hB5.alloc hB5.size _
      have hz6 : (w4.alloc (.cells g4.cells 72)).heap.size = w4.heap.size + 1 := by simp
      have hW6 : Below w4.heap.size w4 (w4.alloc (.cells g4.cells 72)) := (Below.refl _ _).alloc (Nat.le_refl _) _
      obtain ⟨hst, hval⟩ := twice_val (unhide H0) h5 hj4
      have hcj := geval_any g4 C k q r _ ((hg4.below hW6).more (by omega)) ((hr.below hB6).more hB6.size) hk
      rw [hst, hval, errV_0 rfl, ← unhide HVV] at hcj
      have HCJ := hide hcj
      have kk1 := cell_alloc ((hb4.cell (p := ⟨w.heap.size, 1, none⟩) (by show w.heap.size < _; omega)).trans hk1) (by show w.heap.size < _; omega)
      obtain ⟨f4, way4, Aw4, nw4, cw4, ws4, At4, nt4, ct4, ts4⟩ := g4
      simp only [Gv.val, Gv.cells] at HCJ hB6 hz6 hW6 ⊢
      have c6 := kk1 (.cells #[.int .i64 f4, .int .i64 way4, .slice Aw4 nw4 cw4, .slice At4 nt4 ct4] 72)
      clear hcj hst hval hk0 hk1 hk2 hk3 x0 x1 x2 x3 hg4 hj4 h5
      go_wp2_with fail
      refine (unhide HCJ).mono ?_
      rintro e w7 ⟨rfl, hb7⟩
      have kk7 : w7.cell? ⟨w.heap.size, 1, none⟩ = some (.int .i64 way) := (hb7.cell (p := ⟨w.heap.size, 1, none⟩) (by show w.heap.size < _; omega)).trans c6
      have hB7 := hB6.trans (hb7.mono hB6.size)
      clear HCJ c6 kk1
      by_cases hw : way = 1
      · have e1 : (way == 1) = true := by simp [hw]
        rw [if_pos hw]
        obtain ⟨hV1, hV2⟩ := geval_sum (unhide H0) hw
        rw [← unhide HVV] at hV1 hV2
        clear hw
        have e2 : (2 * V == 2 * V) = true := by simp
        go_wp2_with fail
        go_ret
        exact ⟨rfl, hB7⟩
      · have e1 : (way == 1) = false := by simp [hw]
        rw [if_neg hw]
        clear hw
        have e2 : (V == V) = true := by simp
        go_wp2_with fail
        go_ret
        exact ⟨rfl, hB7⟩
end Go.Proofs.Ytliacpdbeghmlaa
