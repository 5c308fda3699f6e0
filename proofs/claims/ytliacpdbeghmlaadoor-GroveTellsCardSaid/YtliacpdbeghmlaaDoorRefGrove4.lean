/- The references of groves: orchref1.Between; orchsame.Nodes, Grove. Conditions: arguments read as data. -/
import Derived.Test.YtliacpdbeghmlaaDoorRefGrove3
import Derived.Laws.StructEq
namespace Go.Proofs.YtliacpdbeghmlaaDoor
set_option linter.unusedVariables false
set_option linter.unusedSimpArgs false
open Go.RowKit

theorem sort_first {l : List Int} (h : l ≠ []) : (sortL l)[0]? = some (Lib.minOf l) := by
  obtain ⟨hm, hall⟩ := minOf_spec h
  have hl : 0 < (sortL l).length := by rw [sortL_len]; exact List.length_pos_iff.2 h
  rw [List.getElem?_eq_getElem hl]
  congr 1
  have hx : (sortL l)[0] ∈ l := (sortL_perm l).mem_iff.1 (List.getElem_mem hl)
  have h1 := hall _ hx
  have h2 : Lib.minOf l ∈ sortL l := (sortL_perm l).mem_iff.2 hm
  obtain ⟨i, hi, e⟩ := List.mem_iff_getElem.1 h2
  have h3 := List.pairwise_iff_getElem.1 (sortL_sorted l) 0 i hl hi
  rcases Nat.eq_zero_or_pos i with h0 | h0
  · subst h0; omega
  · have := h3 h0; omega
theorem sort_last {l : List Int} (h : l ≠ []) : (sortL l)[l.length - 1]? = some (Lib.maxOf l) := by
  obtain ⟨hm, hall⟩ := maxOf_spec h
  have hp := List.length_pos_iff.2 h
  have hl : l.length - 1 < (sortL l).length := by rw [sortL_len]; omega
  rw [List.getElem?_eq_getElem hl]
  congr 1
  have hx : (sortL l)[l.length - 1] ∈ l := (sortL_perm l).mem_iff.1 (List.getElem_mem hl)
  have h1 := hall _ hx
  have h2 : Lib.maxOf l ∈ sortL l := (sortL_perm l).mem_iff.2 hm
  obtain ⟨i, hi, e⟩ := List.mem_iff_getElem.1 h2
  have h3 := List.pairwise_iff_getElem.1 (sortL_sorted l) i (l.length - 1) hi hl
  have hil : i < l.length := by rw [sortL_len] at hi; exact hi
  by_cases h0 : i = l.length - 1
  · subst h0; omega
  · have := h3 (by omega); omega

set_option maxRecDepth 100000 in
set_option maxHeartbeats 2000000 in
theorem rbetween_any (g : Gv) (Al Am : Option Addr) (nl cl nm cm : Nat) (least most : List Int) (w : World) (hw : IReads w w.heap.size g.Aw g.nw g.ws) (hl : IReads w w.heap.size Al nl least) (hm : IReads w w.heap.size Am nm most) (h1 : nl = g.nw) (h2 : nm = g.nw)
    (h12 : g.nw ≤ 12) (hpos : 0 < g.nw) (hwb : ∀ x ∈ g.ws, 1 ≤ x ∧ x ≤ 1000) (hlb : ∀ x ∈ least, -1000000 ≤ x ∧ x ≤ 1000000) (hmb : ∀ x ∈ most, -1000000 ≤ x ∧ x ≤ 1000000) :
    Calls Tryd.prog 24 #[g.val, .slice Al nl cl, .slice Am nm cm] w fun e w' => e = .returned (.tuple #[.int .i64 (betwV g.way g.ws least most).1, .int .i64 (betwV g.way g.ws least most).2]) ∧ Below w.heap.size w w' := by
  subst h1
  subst h2
  obtain ⟨W, hW, bx, hWs, hb0⟩ := gbox w g.f g.way g.Aw g.nw g.cw g.At g.nt g.ct
  obtain ⟨c0, c1, c2, c3⟩ := bx.cells4
  have hll := hl.len
  have hml := hm.len
  by_cases h3 : g.way = 3
  · have e3 : (g.way != 3) = false := by simp [h3]
    have HB : Hid (betwV g.way g.ws least most = (Lib.minOf least, Lib.maxOf most)) := hide (by unfold betwV; rw [if_pos h3])
    rw [unhide HB]
    have n1 : least ≠ [] := fun e => by rw [e] at hll; simp at hll; omega
    have n2 : most ≠ [] := fun e => by rw [e] at hml; simp at hml; omega
    have HF := hide (sort_first n1)
    have HL := hide (sort_last n2)
    have HLL := hide hll
    have HML := hide hml
    have hs1 : Hid (∀ W1, Below w.heap.size w W1 → Calls Tryd.prog 23 #[.slice Al g.nw cl] W1 (IPost (sortL least) W1)) := hide (fun W1 hb => rsorted_any Al g.nw cl least W1 ((hl.below hb).more hb.size) (by omega))
    have hs2 : Hid (∀ W1, Below w.heap.size w W1 → Calls Tryd.prog 23 #[.slice Am g.nw cm] W1 (IPost (sortL most) W1)) := hide (fun W1 hb => rsorted_any Am g.nw cm most W1 ((hm.below hb).more hb.size) (by omega))
    clear h3 hw hl hm hll hml n1 n2 hwb hlb hmb HB
    obtain ⟨f, way, Aw, nw, cw, ws, At, nt, ct, ts⟩ := g
    simp only [Gv.val]
    dsimp only at hW bx c0 c1 c2 c3 e3 hs1 hs2 h12 hpos HLL HML
    obtain ⟨mn, hmn⟩ : ∃ x, x = Lib.minOf least := ⟨_, rfl⟩
    obtain ⟨mx, hmx⟩ : ∃ x, x = Lib.maxOf most := ⟨_, rfl⟩
    rw [← hmn] at HF ⊢
    rw [← hmx] at HL ⊢
    clear hmn hmx
    go_enter Tryd.func24, Tryd.ntmps24
    go_wp2_with fail
    rw [← hW]
    clear hW
    refine (unhide hs1 W hb0).mono ?_
    rintro e w1 ⟨v1, rfl, ho1, hb1⟩
    have hB1 := hb0.trans (hb1.mono hb0.size)
    obtain ⟨A1, d1, rfl, r1, _, _, _⟩ := ho1.slice_
    have hc2 := hide (unhide hs2 w1 hB1)
    clear hs1 hs2 c0 c1 c2 c3 bx ho1
    go_wp2_with fail
    refine (unhide hc2).mono ?_
    rintro e w2 ⟨v2, rfl, ho2, hb2⟩
    have hB2 := hB1.trans (hb2.mono hB1.size)
    obtain ⟨A2, d2, rfl, r2, _, _, _⟩ := ho2.slice_
    have r1' := r1.below hb2
    have hlen1 : (sortL least).length = nw := by rw [sortL_len]; exact unhide HLL
    have hlen2 : (sortL most).length = nw := by rw [sortL_len]; exact unhide HML
    rw [hlen1] at r1' ⊢
    rw [hlen2] at r2 ⊢
    obtain ⟨b5, o5, x5, rfl, _, hx5, cx5⟩ := r1'.get (k := 0) hpos
    obtain ⟨b6, o6, x6, rfl, _, hx6, cx6⟩ := r2.get (k := nw - 1) (by omega)
    rw [unhide HF] at hx5
    have hx6' := unhide HL
    rw [unhide HML, hx6] at hx6'
    injection hx5 with hx5
    injection hx6' with hx6'
    subst hx5 hx6'
    have hj : IntKind.i64.wrap ((nw : Int) - 1) = (nw : Int) - 1 := IntWalk.i64_in _ (by omega)
    obtain ⟨j, rfl⟩ : ∃ j, nw = j + 1 := ⟨nw - 1, by omega⟩
    rw [Nat.add_sub_cancel] at cx6
    rw [Nat.add_zero] at cx5
    clear hc2 r1 r1' r2 ho2 hx6 hlen1 hlen2 HF HL HLL HML
    go_wp2_with fail
    go_quiet (fail)
    go_wp2_with fail
    go_ret2
    exact ⟨rfl, below_drewN hB2 _⟩
  · have e3 : (g.way != 3) = true := by simp [h3]
    have HB : Hid (betwV g.way g.ws least most = (togV g.way g.ws least, togV g.way g.ws most)) := hide (by unfold betwV; rw [if_neg h3])
    rw [unhide HB]
    have hb0s := hb0.size
    have HT1 := hide (fun (W1 : World) (hb : Below w.heap.size w W1) => rtog_any g Al g.nw cl least W1 ((hw.below hb).more hb.size) ((hl.below hb).more hb.size) rfl h12 hpos hwb hlb)
    have HT2 := hide (fun (W1 : World) (hb : Below w.heap.size w W1) => rtog_any g Am g.nw cm most W1 ((hw.below hb).more hb.size) ((hm.below hb).more hb.size) rfl h12 hpos hwb hmb)
    clear h3 hw hl hm hll hml hwb hlb hmb
    obtain ⟨L1, hL1⟩ : ∃ L1, L1 = togV g.way g.ws least := ⟨_, rfl⟩
    obtain ⟨L2, hL2⟩ : ∃ L2, L2 = togV g.way g.ws most := ⟨_, rfl⟩
    rw [← hL1] at HT1 ⊢
    rw [← hL2] at HT2 ⊢
    clear hL1 hL2 HB
    obtain ⟨f, way, Aw, nw, cw, ws, At, nt, ct, ts⟩ := g
    simp only [Gv.val] at HT1 HT2 ⊢
    dsimp only at hW bx c0 c1 c2 c3 e3 h12 hpos
    go_enter Tryd.func24, Tryd.ntmps24
    go_wp2_with fail
    rw [← hW]
    clear hW
    go_region_held3 (fun w' => w'.cell? ⟨w.heap.size, 0, none⟩ = some (.int .i64 f) ∧ w'.cell? ⟨w.heap.size, 1, none⟩ = some (.int .i64 way) ∧ w'.cell? ⟨w.heap.size, 2, none⟩ = some (.slice Aw nw cw) ∧ w'.cell? ⟨w.heap.size, 3, none⟩ = some (.slice At nt ct))
      (first | go_keep | (go_split_ands <;> (first | (rw [hk1]; assumption) | (rw [hk2]; assumption))))
      (first
        | (go_at_call 20
           (with_reducible refine (unhide HT1 _ (hb0.drew)).mono ?_)
           rintro e w1 ⟨rfl, hb1⟩
           have hk1 : ∀ o, w1.cell? ⟨w.heap.size, o, none⟩ = W.cell? ⟨w.heap.size, o, none⟩ := fun o => hb1.cell (p := ⟨w.heap.size, o, none⟩) (by show w.heap.size < W.heap.size; omega)
           have hB1 : Below w.heap.size w w1 := (hb0.drew).trans (hb1.mono hb0s))
        | (go_at_call 20
           (with_reducible refine (unhide HT2 _ hB1).mono ?_)
           rintro e w2 ⟨rfl, hb2⟩
           have hk2 : ∀ o, w2.cell? ⟨w.heap.size, o, none⟩ = W.cell? ⟨w.heap.size, o, none⟩ := fun o => (hb2.cell (p := ⟨w.heap.size, o, none⟩) (by have := hb1.size; show w.heap.size < w1.heap.size; simp at this; omega)).trans (hk1 o)
           have hB2 : Below w.heap.size w w2 := hB1.trans (hb2.mono hB1.size)))
    go_wp2_with fail
    go_ret2
    exact ⟨rfl, hB2⟩
end Go.Proofs.YtliacpdbeghmlaaDoor
