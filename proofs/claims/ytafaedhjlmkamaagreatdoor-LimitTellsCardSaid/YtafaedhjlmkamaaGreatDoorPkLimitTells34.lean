/- Part 34 of what LawLimitTells needs: RefGrove3, RefGrove4. Conditions: as each lemma names. -/
import Derived.Test.YtafaedhjlmkamaaGreatDoorPkLimitTells33
import Derived.Test.YtafaedhjlmkamaaGreatDoorPkLimitTells17
import Derived.Test.YtafaedhjlmkamaaGreatDoorPkLimitTells19
import Derived.IntWalk
import Derived.Laws.StructEq
/- The references of groves: orchref1.Together, Between. Conditions: as grove.Together's. -/
namespace Go.Proofs.YtafaedhjlmkamaaGreatDoor
set_option linter.unusedVariables false
set_option linter.unusedSimpArgs false
open Go.RowKit

/-- the best of the first values -/
def BestTo (ps : Ps) (k : Nat) (b m : Int) : Prop := (k = 0 → b = 0 ∧ m = 0) ∧ (0 < k → b ∈ (ps.take k).map (·.1) ∧ m = pVotes ps b ∧ ∀ v ∈ (ps.take k).map (·.1), pVotes ps v ≤ m ∧ (pVotes ps v = m → b ≤ v))
theorem BestTo.zero (ps : Ps) : BestTo ps 0 0 0 := ⟨fun _ => ⟨rfl, rfl⟩, fun h => absurd h (by omega)⟩
theorem BestTo.take_it {ps : Ps} {k : Nat} {b m : Int} {p : Int × Int} (h : BestTo ps k b m) (hp : ps[k]? = some p) (h1 : 1 ≤ pVotes ps p.1) (hc : m < pVotes ps p.1 ∨ pVotes ps p.1 = m ∧ p.1 < b) : BestTo ps (k + 1) p.1 (pVotes ps p.1) := by
  have ht : ps.take (k + 1) = ps.take k ++ [p] := by rw [List.take_add_one, hp]; rfl
  refine ⟨fun e => by omega, fun _ => ⟨by rw [ht]; simp, rfl, fun v hv => ?_⟩⟩
  rw [ht, List.map_append, List.mem_append] at hv
  rcases hv with hv | hv
  · rcases Nat.eq_zero_or_pos k with h0 | h0
    · subst h0; simp at hv
    · obtain ⟨h2, h3, h4⟩ := h.2 h0
      obtain ⟨h5, h6⟩ := h4 v hv
      refine ⟨by omega, fun e => ?_⟩
      rcases hc with hc | hc
      · omega
      · have := h6 (by omega); omega
  · simp at hv; subst hv; exact ⟨Int.le_refl _, fun _ => Int.le_refl _⟩
theorem BestTo.leave_it {ps : Ps} {k : Nat} {b m : Int} {p : Int × Int} (h : BestTo ps k b m) (hp : ps[k]? = some p) (h1 : 1 ≤ pVotes ps p.1) (hc : ¬ m < pVotes ps p.1) (hc2 : ¬ (pVotes ps p.1 = m ∧ p.1 < b)) : BestTo ps (k + 1) b m := by
  have ht : ps.take (k + 1) = ps.take k ++ [p] := by rw [List.take_add_one, hp]; rfl
  have hk : 0 < k := by
    rcases Nat.eq_zero_or_pos k with h0 | h0
    · have := (h.1 h0).2; omega
    · exact h0
  obtain ⟨h2, h3, h4⟩ := h.2 hk
  refine ⟨fun e => by omega, fun _ => ⟨by rw [ht, List.map_append]; exact List.mem_append_left _ h2, h3, fun v hv => ?_⟩⟩
  rw [ht, List.map_append, List.mem_append] at hv
  rcases hv with hv | hv
  · exact h4 v hv
  · simp at hv; subst hv; exact ⟨by omega, fun e => by by_cases hx : p.1 < b; exact absurd ⟨e, hx⟩ hc2; omega⟩
theorem BestTo.vote {ps : Ps} {b m : Int} (h : BestTo ps ps.length b m) (h0 : 0 < ps.length) : IsVote ps b := by
  obtain ⟨h2, h3, h4⟩ := h.2 h0
  rw [List.take_length] at h2 h4
  exact ⟨h2, fun v hv => by rw [← h3]; exact (h4 v hv).1, fun v hv e => (h4 v hv).2 (by rw [e, h3])⟩

set_option maxRecDepth 100000 in
set_option maxHeartbeats 4000000 in
theorem rtog_any (g : Gv) (Al : Option Addr) (nl cl : Nat) (l : List Int) (w : World) (hw : IReads w w.heap.size g.Aw g.nw g.ws) (hl : IReads w w.heap.size Al nl l) (hn : nl = g.nw) (h12 : nl ≤ 12) (hpos : 0 < nl)
    (hwb : ∀ x ∈ g.ws, 1 ≤ x ∧ x ≤ 1000) (hlb : ∀ x ∈ l, -1000000 ≤ x ∧ x ≤ 1000000) :
    Calls Tryz.prog 27 #[g.val, .slice Al nl cl] w fun e w' => e = .returned (.int .i64 (togV g.way g.ws l)) ∧ Below w.heap.size w w' := by
  obtain ⟨W, hW, bx, hWs, hb0⟩ := gbox w g.f g.way g.Aw g.nw g.cw g.At g.nt g.ct
  obtain ⟨c0, c1, c2, c3⟩ := bx.cells4
  obtain ⟨f, way, Aw, nw, cw, ws, At, nt, ct, ts⟩ := g
  simp only [Gv.val]
  dsimp only at hw hn hwb hW bx c0 c1 c2 c3 ⊢
  subst hn
  have hlenl := hl.len
  have hlenw := hw.len
  obtain ⟨ps, hps⟩ : ∃ ps, ps = l.zip ws := ⟨_, rfl⟩
  have hpl : ps.length = nl := by rw [hps, List.length_zip, hlenl, hlenw]; exact Nat.min_self _
  have hpb : ∀ p ∈ ps, (-1000000 ≤ p.1 ∧ p.1 ≤ 1000000) ∧ 1 ≤ p.2 ∧ p.2 ≤ 1000 := fun p hp => by
    rw [hps] at hp
    have := List.of_mem_zip (a := p.1) (b := p.2) hp
    exact ⟨hlb _ this.1, hwb _ this.2⟩
  have HB : Hid (∀ k, (-12000000000 ≤ pSum (ps.take k) ∧ pSum (ps.take k) ≤ 12000000000) ∧ (0 ≤ pAll (ps.take k) ∧ pAll (ps.take k) ≤ 12000) ∧ ∀ v, 0 ≤ pVotes (ps.take k) v ∧ pVotes (ps.take k) v ≤ 12000) := hide (fun k => take_in hpb (by omega))
  have HT : Hid (togV way ws l = if way = 1 then pSum ps else if way = 2 then pSum ps / pAll ps else voteV ps) := hide (by rw [hps]; rfl)
  have HA : Hid ((nl : Int) ≤ pAll ps) := hide (by have := (pAll_in (ps := ps) (fun p hp => (hpb p hp).2)).1; rw [hpl] at this; exact this)
  have HVP : Hid (∀ v ∈ ps.map (·.1), 1 ≤ pVotes ps v) := hide (fun v hv => pVotes_pos (fun p hp => (hpb p hp).2.1) hv)
  have HPL := hide hpl
  have HPS := hide hps
  have HPB := hide hpb
  have hlW := hl.below hb0
  have hwW := hw.below hb0
  clear hpl hps hpb hlenl hlenw hwb hlb hl hw
  go_enter Tryz.func27, Tryz.ntmps27
  go_wp2_with fail
  rw [← hW]
  clear hW
  go_loopw [5, 6, 7, 8, 9] (fun s a b m i wr => ∃ (k q : Nat) (S T B M : Int), k ≤ nl ∧ i = .int .i64 k ∧ s = .int .i64 S ∧ a = .int .i64 T ∧ b = .int .i64 B ∧ m = .int .i64 M ∧ Hid (S = pSum (ps.take k)) ∧ Hid (T = pAll (ps.take k)) ∧
      Hid (BestTo ps k B M) ∧ wr = W.drewN q) (fun _ _ _ _ i _ => nl - (Lib.intOf i).toNat)
  case atStart => exact ⟨0, 0, 0, 0, 0, 0, Nat.zero_le _, rfl, rfl, rfl, rfl, rfl, hide rfl, hide rfl, hide (BestTo.zero ps), rfl⟩
  case round =>
    obtain ⟨k, q, S, T, B, M, hk, rfl, rfl, rfl, rfl, rfl, HS, HTT, HBT, rfl⟩ := hrel
    obtain ⟨⟨hS1, hS2⟩, ⟨hT1, hT2⟩, _⟩ := unhide HB k
    rw [← unhide HS] at hS1 hS2
    rw [← unhide HTT] at hT1 hT2
    by_cases hlt : k < nl
    · obtain ⟨b, o, x, rfl, hbb, hx, cx⟩ := hlW.get hlt
      obtain ⟨b2, o2, y, rfl, hbb2, hy, cy⟩ := hwW.get hlt
      have hpk : ps[k]? = some (x, y) := by rw [unhide HPS]; exact List.getElem?_zip_eq_some.2 ⟨hx, hy⟩
      have HZ : Hid (ps.take (k + 1) = ps.take k ++ [(x, y)]) := hide (by rw [unhide HPS]; exact zip_take hx hy)
      obtain ⟨⟨hx1, hx2⟩, hy1, hy2⟩ := unhide HPB (x, y) (List.mem_of_getElem? hpk)
      dsimp only at hx1 hx2 hy1 hy2
      obtain ⟨hm1, hm2⟩ := mul_in ⟨hx1, hx2⟩ ⟨by omega, hy2⟩
      have hm3 : IntKind.i64.wrap (x * y) = x * y := IntWalk.i64_in _ (by omega)
      have hm4 : IntKind.i64.wrap (S + x * y) = S + x * y := IntWalk.i64_in _ (by omega)
      have HPK := hide hpk
      have HHX := hide hx
      have HHY := hide hy
      have HX1 := hide hx
      have hV1 : 1 ≤ pVotes ps x := unhide HVP x (List.mem_map.2 ⟨(x, y), List.mem_of_getElem? hpk, rfl⟩)
      clear hx hy hpk
      go_wp2_with fail
      go_quiet (fail)
      go_wp2_with fail
      clear hm3 hm4
      go_loopw [10, 11] (fun v i wr => ∃ (j q' : Nat) (V : Int), j ≤ nl ∧ i = .int .i64 j ∧ v = .int .i64 V ∧ Hid (V = pVotes (ps.take j) x) ∧ wr = W.drewN q') (fun _ i _ => nl - (Lib.intOf i).toNat)
      case atStart => exact ⟨0, _, 0, Nat.zero_le _, rfl, rfl, hide rfl, by first | rfl | rw [World.drewN_drewN]⟩
      case round =>
        obtain ⟨j, q', V, hj, rfl, rfl, HV, rfl⟩ := hrel
        obtain ⟨hV3, hV4⟩ := (unhide HB j).2.2 x
        rw [← unhide HV] at hV3 hV4
        by_cases hlj : j < nl
        · obtain ⟨b3, o3, x', e3, _, hx', cx'⟩ := hlW.get hlj
          cases e3
          obtain ⟨b4, o4, y', e4, _, hy', cy'⟩ := hwW.get hlj
          cases e4
          obtain ⟨⟨_, _⟩, hy1', hy2'⟩ := unhide HPB (x', y') (by rw [unhide HPS]; exact List.mem_of_getElem? (List.getElem?_zip_eq_some.2 ⟨hx', hy'⟩))
          have HZ2 : Hid (ps.take (j + 1) = ps.take j ++ [(x', y')]) := hide (by rw [unhide HPS]; exact zip_take hx' hy')
          dsimp only at hy1' hy2'
          clear hx' hy'
          by_cases hxx : x' = x
          · have e1 : (x' == x) = true := by simp [hxx]
            have HV2 : Hid (V + y' = pVotes (ps.take (j + 1)) x) := hide (by rw [unhide HZ2, unhide HV, ← hxx]; exact (pVotes_snoc_same _ (x', y')).symm)
            clear hxx
            go_wp2_with fail
            go_quiet (fail)
            go_wp2_with fail
            go_roundw
            case rel => exact ⟨j + 1, _, V + y', by omega, by go_num, rfl, HV2, by first | rfl | rw [World.drewN_drewN]⟩
            case measure => simp [Lib.intOf]; omega
          · have e1 : (x' == x) = false := by simp [hxx]
            have HV2 : Hid (V = pVotes (ps.take (j + 1)) x) := hide (by rw [unhide HZ2, unhide HV]; exact (pVotes_snoc_other _ (x', y') hxx).symm)
            clear hxx
            go_wp2_with fail
            go_quiet (fail)
            go_wp2_with fail
            go_roundw
            case rel => exact ⟨j + 1, _, V, by omega, by go_num, rfl, HV2, by first | rfl | rw [World.drewN_drewN]⟩
            case measure => simp [Lib.intOf]; omega
        · obtain rfl : j = nl := by omega
          have HVV : Hid (V = pVotes ps x) := hide (by rw [unhide HV, List.take_of_length_le (by rw [unhide HPL]; exact Nat.le_refl _)])
          rw [← unhide HVV] at hV1
          have HS2 : Hid (S + x * y = pSum (ps.take (k + 1))) := hide (by rw [unhide HZ, pSum_snoc, unhide HS])
          have HT2 : Hid (T + y = pAll (ps.take (k + 1))) := hide (by rw [unhide HZ, pAll_snoc, unhide HTT])
          by_cases q1 : M < V
          · have e1 : decide (M < V) = true := decide_eq_true q1
            have HB2 : Hid (BestTo ps (k + 1) x V) := hide (by rw [unhide HVV]; exact (unhide HBT).take_it (unhide HPK) (by rw [← unhide HVV]; exact hV1) (.inl (by rw [← unhide HVV]; exact q1)))
            clear q1
            go_wp2_with fail
            go_roundw
            case rel => exact ⟨k + 1, _, _, _, _, _, by omega, by go_num, rfl, rfl, rfl, rfl, HS2, HT2, HB2, rfl⟩
            case measure => simp [Lib.intOf]; omega
          · have e1 : decide (M < V) = false := decide_eq_false q1
            by_cases q2 : V = M
            · have e2 : (V == M) = true := by simp [q2]
              by_cases q3 : x < B
              · have e3 : decide (x < B) = true := decide_eq_true q3
                have HB2 : Hid (BestTo ps (k + 1) x V) := hide (by rw [unhide HVV]; exact (unhide HBT).take_it (unhide HPK) (by rw [← unhide HVV]; exact hV1) (.inr ⟨by rw [← unhide HVV]; exact q2, q3⟩))
                clear q1 q2 q3
                go_wp2_with fail
                go_roundw
                case rel => exact ⟨k + 1, _, _, _, _, _, by omega, by go_num, rfl, rfl, rfl, rfl, HS2, HT2, HB2, rfl⟩
                case measure => simp [Lib.intOf]; omega
              · have e3 : decide (x < B) = false := decide_eq_false q3
                have HB2 : Hid (BestTo ps (k + 1) B M) := hide ((unhide HBT).leave_it (unhide HPK) (by rw [← unhide HVV]; exact hV1) (by rw [← unhide HVV]; exact q1) (by intro h; exact q3 h.2))
                clear q1 q2 q3
                go_wp2_with fail
                go_roundw
                case rel => exact ⟨k + 1, _, _, _, _, _, by omega, by go_num, rfl, rfl, rfl, rfl, HS2, HT2, HB2, rfl⟩
                case measure => simp [Lib.intOf]; omega
            · have e2 : (V == M) = false := by simp [q2]
              have HB2 : Hid (BestTo ps (k + 1) B M) := hide ((unhide HBT).leave_it (unhide HPK) (by rw [← unhide HVV]; exact hV1) (by rw [← unhide HVV]; exact q1) (by intro h; exact q2 (by rw [unhide HVV]; exact h.1)))
              clear q1 q2
              go_wp2_with fail
              go_roundw
              case rel => exact ⟨k + 1, _, _, _, _, _, by omega, by go_num, rfl, rfl, rfl, rfl, HS2, HT2, HB2, rfl⟩
              case measure => simp [Lib.intOf]; omega
    · obtain rfl : k = nl := by omega
      have htk : ps.take k = ps := List.take_of_length_le (by rw [unhide HPL]; exact Nat.le_refl _)
      have hS0 := unhide HS
      have hT0 := unhide HTT
      rw [htk] at hS0 hT0
      have HS0 := hide hS0
      have HT0 := hide hT0
      have hTp : 0 < T := by rw [hT0]; have := unhide HA; omega
      have hbt := unhide HBT
      have hvote : voteV ps = B := by
        refine voteV_eq (BestTo.vote (m := M) ?_ (by rw [unhide HPL]; omega))
        rw [unhide HPL]; exact hbt
      have HVT := hide hvote
      have hBf := below_drewN hb0 q
      clear hS0 hT0 htk HS HTT hbt hvote HBT
      by_cases h1 : way = 1
      · have e1 : (way == 1) = true := by simp [h1]
        have HR : Hid (togV way ws l = S) := hide (by rw [unhide HT, if_pos h1, unhide HS0])
        clear h1
        go_wp2_with fail
        go_ret
        exact ⟨by rw [unhide HR]; rfl, hBf⟩
      have e1 : (way == 1) = false := by simp [h1]
      by_cases h2 : way = 2
      · have e2 : (way == 2) = true := by simp [h2]
        have HR : Hid (togV way ws l = S / T) := hide (by rw [unhide HT, if_neg h1, if_pos h2, unhide HS0, unhide HT0])
        clear h1 h2
        go_wp2_with fail
        refine (rfloor_any S T _ hTp (by omega) (by omega) (by omega)).mono ?_
        rintro e w3 ⟨rfl, rfl⟩
        go_wp2_with fail
        go_ret
        exact ⟨by rw [unhide HR]; rfl, hBf⟩
      have e2 : (way == 2) = false := by simp [h2]
      have HR : Hid (togV way ws l = B) := hide (by rw [unhide HT, if_neg h1, if_neg h2, unhide HVT])
      clear h1 h2
      go_wp2_with fail
      go_ret
      exact ⟨by rw [unhide HR]; rfl, hBf⟩
end Go.Proofs.YtafaedhjlmkamaaGreatDoor
/- The references of groves: orchref1.Between; orchsame.Nodes, Grove. Conditions: arguments read as data. -/
namespace Go.Proofs.YtafaedhjlmkamaaGreatDoor
set_option linter.unusedVariables false
set_option linter.unusedSimpArgs false
open Go.RowKit

theorem sort_first {l : List Int} (h : l ≠ []) : (sortL l)[0]? = some (Lib.minOf l) := by
  obtain ⟨hm, hall⟩ := minOf_spec h
  have hl : 0 < (sortL l).length := by rw [sortL_len]; exact List.length_pos_iff.2 h
  rw [List.getElem?_eq_getElem hl]
  congr 1
  have hx : (sortL l)[0] ∈ l := (sortL_perm l).mem_iff.1 (List.getElem_mem hl)
  have h1 := hall _ hx
  have h2 : Lib.minOf l ∈ sortL l := (sortL_perm l).mem_iff.2 hm
  obtain ⟨i, hi, e⟩ := List.mem_iff_getElem.1 h2
  have h3 := List.pairwise_iff_getElem.1 (sortL_sorted l) 0 i hl hi
  rcases Nat.eq_zero_or_pos i with h0 | h0
  · subst h0; omega
  · have := h3 h0; omega
theorem sort_last {l : List Int} (h : l ≠ []) : (sortL l)[l.length - 1]? = some (Lib.maxOf l) := by
  obtain ⟨hm, hall⟩ := maxOf_spec h
  have hp := List.length_pos_iff.2 h
  have hl : l.length - 1 < (sortL l).length := by rw [sortL_len]; omega
  rw [List.getElem?_eq_getElem hl]
  congr 1
  have hx : (sortL l)[l.length - 1] ∈ l := (sortL_perm l).mem_iff.1 (List.getElem_mem hl)
  have h1 := hall _ hx
  have h2 : Lib.maxOf l ∈ sortL l := (sortL_perm l).mem_iff.2 hm
  obtain ⟨i, hi, e⟩ := List.mem_iff_getElem.1 h2
  have h3 := List.pairwise_iff_getElem.1 (sortL_sorted l) i (l.length - 1) hi hl
  have hil : i < l.length := by rw [sortL_len] at hi; exact hi
  by_cases h0 : i = l.length - 1
  · subst h0; omega
  · have := h3 (by omega); omega

set_option maxRecDepth 100000 in
set_option maxHeartbeats 2000000 in
theorem rbetween_any (g : Gv) (Al Am : Option Addr) (nl cl nm cm : Nat) (least most : List Int) (w : World) (hw : IReads w w.heap.size g.Aw g.nw g.ws) (hl : IReads w w.heap.size Al nl least) (hm : IReads w w.heap.size Am nm most) (h1 : nl = g.nw) (h2 : nm = g.nw)
    (h12 : g.nw ≤ 12) (hpos : 0 < g.nw) (hwb : ∀ x ∈ g.ws, 1 ≤ x ∧ x ≤ 1000) (hlb : ∀ x ∈ least, -1000000 ≤ x ∧ x ≤ 1000000) (hmb : ∀ x ∈ most, -1000000 ≤ x ∧ x ≤ 1000000) :
    Calls Tryz.prog 12 #[g.val, .slice Al nl cl, .slice Am nm cm] w fun e w' => e = .returned (.tuple #[.int .i64 (betwV g.way g.ws least most).1, .int .i64 (betwV g.way g.ws least most).2]) ∧ Below w.heap.size w w' := by
  subst h1
  subst h2
  obtain ⟨W, hW, bx, hWs, hb0⟩ := gbox w g.f g.way g.Aw g.nw g.cw g.At g.nt g.ct
  obtain ⟨c0, c1, c2, c3⟩ := bx.cells4
  have hll := hl.len
  have hml := hm.len
  by_cases h3 : g.way = 3
  · have e3 : (g.way != 3) = false := by simp [h3]
    have HB : Hid (betwV g.way g.ws least most = (Lib.minOf least, Lib.maxOf most)) := hide (by unfold betwV; rw [if_pos h3])
    rw [unhide HB]
    have n1 : least ≠ [] := fun e => by rw [e] at hll; simp at hll; omega
    have n2 : most ≠ [] := fun e => by rw [e] at hml; simp at hml; omega
    have HF := hide (sort_first n1)
    have HL := hide (sort_last n2)
    have HLL := hide hll
    have HML := hide hml
    have hs1 : Hid (∀ W1, Below w.heap.size w W1 → Calls Tryz.prog 15 #[.slice Al g.nw cl] W1 (IPost (sortL least) W1)) := hide (fun W1 hb => rsorted_any Al g.nw cl least W1 ((hl.below hb).more hb.size) (by omega))
    have hs2 : Hid (∀ W1, Below w.heap.size w W1 → Calls Tryz.prog 15 #[.slice Am g.nw cm] W1 (IPost (sortL most) W1)) := hide (fun W1 hb => rsorted_any Am g.nw cm most W1 ((hm.below hb).more hb.size) (by omega))
    clear h3 hw hl hm hll hml n1 n2 hwb hlb hmb HB
    obtain ⟨f, way, Aw, nw, cw, ws, At, nt, ct, ts⟩ := g
    simp only [Gv.val]
    dsimp only at hW bx c0 c1 c2 c3 e3 hs1 hs2 h12 hpos HLL HML
    obtain ⟨mn, hmn⟩ : ∃ x, x = Lib.minOf least := ⟨_, rfl⟩
    obtain ⟨mx, hmx⟩ : ∃ x, x = Lib.maxOf most := ⟨_, rfl⟩
    rw [← hmn] at HF ⊢
    rw [← hmx] at HL ⊢
    clear hmn hmx
    go_enter Tryz.func12, Tryz.ntmps12
    go_wp2_with fail
    rw [← hW]
    clear hW
    refine (unhide hs1 W hb0).mono ?_
    rintro e w1 ⟨v1, rfl, ho1, hb1⟩
    have hB1 := hb0.trans (hb1.mono hb0.size)
    obtain ⟨A1, d1, rfl, r1, _, _, _⟩ := ho1.slice_
    have hc2 := hide (unhide hs2 w1 hB1)
    clear hs1 hs2 c0 c1 c2 c3 bx ho1
    go_wp2_with fail
    refine (unhide hc2).mono ?_
    rintro e w2 ⟨v2, rfl, ho2, hb2⟩
    have hB2 := hB1.trans (hb2.mono hB1.size)
    obtain ⟨A2, d2, rfl, r2, _, _, _⟩ := ho2.slice_
    have r1' := r1.below hb2
    have hlen1 : (sortL least).length = nw := by rw [sortL_len]; exact unhide HLL
    have hlen2 : (sortL most).length = nw := by rw [sortL_len]; exact unhide HML
    rw [hlen1] at r1' ⊢
    rw [hlen2] at r2 ⊢
    obtain ⟨b5, o5, x5, rfl, _, hx5, cx5⟩ := r1'.get (k := 0) hpos
    obtain ⟨b6, o6, x6, rfl, _, hx6, cx6⟩ := r2.get (k := nw - 1) (by omega)
    rw [unhide HF] at hx5
    have hx6' := unhide HL
    rw [unhide HML, hx6] at hx6'
    injection hx5 with hx5
    injection hx6' with hx6'
    subst hx5 hx6'
    have hj : IntKind.i64.wrap ((nw : Int) - 1) = (nw : Int) - 1 := IntWalk.i64_in _ (by omega)
    obtain ⟨j, rfl⟩ : ∃ j, nw = j + 1 := ⟨nw - 1, by omega⟩
    rw [Nat.add_sub_cancel] at cx6
    rw [Nat.add_zero] at cx5
    clear hc2 r1 r1' r2 ho2 hx6 hlen1 hlen2 HF HL HLL HML
    go_wp2_with fail
    go_quiet (fail)
    go_wp2_with fail
    go_ret2
    exact ⟨rfl, below_drewN hB2 _⟩
  · have e3 : (g.way != 3) = true := by simp [h3]
    have HB : Hid (betwV g.way g.ws least most = (togV g.way g.ws least, togV g.way g.ws most)) := hide (by unfold betwV; rw [if_neg h3])
    rw [unhide HB]
    have hb0s := hb0.size
    have HT1 := hide (fun (W1 : World) (hb : Below w.heap.size w W1) => rtog_any g Al g.nw cl least W1 ((hw.below hb).more hb.size) ((hl.below hb).more hb.size) rfl h12 hpos hwb hlb)
    have HT2 := hide (fun (W1 : World) (hb : Below w.heap.size w W1) => rtog_any g Am g.nw cm most W1 ((hw.below hb).more hb.size) ((hm.below hb).more hb.size) rfl h12 hpos hwb hmb)
    clear h3 hw hl hm hll hml hwb hlb hmb
    obtain ⟨L1, hL1⟩ : ∃ L1, L1 = togV g.way g.ws least := ⟨_, rfl⟩
    obtain ⟨L2, hL2⟩ : ∃ L2, L2 = togV g.way g.ws most := ⟨_, rfl⟩
    rw [← hL1] at HT1 ⊢
    rw [← hL2] at HT2 ⊢
    clear hL1 hL2 HB
    obtain ⟨f, way, Aw, nw, cw, ws, At, nt, ct, ts⟩ := g
    simp only [Gv.val] at HT1 HT2 ⊢
    dsimp only at hW bx c0 c1 c2 c3 e3 h12 hpos
    go_enter Tryz.func12, Tryz.ntmps12
    go_wp2_with fail
    rw [← hW]
    clear hW
    go_region_held3 (fun w' => w'.cell? ⟨w.heap.size, 0, none⟩ = some (.int .i64 f) ∧ w'.cell? ⟨w.heap.size, 1, none⟩ = some (.int .i64 way) ∧ w'.cell? ⟨w.heap.size, 2, none⟩ = some (.slice Aw nw cw) ∧ w'.cell? ⟨w.heap.size, 3, none⟩ = some (.slice At nt ct))
      (first | go_keep | (go_split_ands <;> (first | (rw [hk1]; assumption) | (rw [hk2]; assumption))))
      (first
        | (go_at_call 27
           (with_reducible refine (unhide HT1 _ (hb0.drew)).mono ?_)
           rintro e w1 ⟨rfl, hb1⟩
           have hk1 : ∀ o, w1.cell? ⟨w.heap.size, o, none⟩ = W.cell? ⟨w.heap.size, o, none⟩ := fun o => hb1.cell (p := ⟨w.heap.size, o, none⟩) (by show w.heap.size < W.heap.size; omega)
           have hB1 : Below w.heap.size w w1 := (hb0.drew).trans (hb1.mono hb0s))
        | (go_at_call 27
           (with_reducible refine (unhide HT2 _ hB1).mono ?_)
           rintro e w2 ⟨rfl, hb2⟩
           have hk2 : ∀ o, w2.cell? ⟨w.heap.size, o, none⟩ = W.cell? ⟨w.heap.size, o, none⟩ := fun o => (hb2.cell (p := ⟨w.heap.size, o, none⟩) (by have := hb1.size; show w.heap.size < w1.heap.size; simp at this; omega)).trans (hk1 o)
           have hB2 : Below w.heap.size w w2 := hB1.trans (hb2.mono hB1.size)))
    go_wp2_with fail
    go_ret2
    exact ⟨rfl, hB2⟩
end Go.Proofs.YtafaedhjlmkamaaGreatDoor
